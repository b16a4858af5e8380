/-
  Contracts: event structures.
-/
import Derived.Test.YthabclhldlikfaaGreatDoorFnS
set_option linter.unusedVariables false
set_option linter.unusedSimpArgs false
set_option maxRecDepth 100000
set_option maxHeartbeats 1600000
namespace Go.AM
open Go.Proofs
/-- What is asked of one event. -/
def evOk (x : StrucV) (n e : Nat) : Bool := isM n (nth x.below e) && isM n (nth x.clash e) && (decide (0 ≤ nth x.labels e) && decide (nth x.labels e ≤ 7)) && !tb (nth x.below e) e && !tb (nth x.clash e) e
/-- What is asked of two events. -/
def sub2 (x : StrucV) (e f : Nat) : Bool := (ibits .andNot .i64 (nth x.below f) (nth x.below e) == 0) && (ibits .andNot .i64 (nth x.clash f) (nth x.clash e) == 0)
def pairOk (x : StrucV) (e f : Nat) : Bool := (!tb (nth x.below e) f || sub2 x e f) && (tb (nth x.clash e) f == tb (nth x.clash f) e)
/-- An event structure. -/
def isStructureV (x : StrucV) : Bool := decide (x.labels.length ≤ 16) && (x.below.length == x.labels.length) && (x.clash.length == x.labels.length) && ((List.range x.labels.length).all fun e => evOk x x.labels.length e) &&
  (List.range x.labels.length).all fun e => (List.range x.labels.length).all fun f => pairOk x e f
theorem isStruc_iff {x : StrucV} : isStructureV x = true ↔ x.labels.length ≤ 16 ∧ x.below.length = x.labels.length ∧ x.clash.length = x.labels.length ∧ (∀ e, e < x.labels.length → evOk x x.labels.length e = true) ∧ ∀ e, e < x.labels.length → ∀ f, f < x.labels.length → pairOk x e f = true := by
  unfold isStructureV
  simp only [Bool.and_eq_true, decide_eq_true_eq, beq_iff_eq, List.all_eq_true, List.mem_range, and_assoc]
theorem isStruc_no {x : StrucV} (h : ¬ (x.labels.length ≤ 16 ∧ x.below.length = x.labels.length ∧ x.clash.length = x.labels.length ∧ (∀ e, e < x.labels.length → evOk x x.labels.length e = true) ∧ ∀ e, e < x.labels.length → ∀ f, f < x.labels.length → pairOk x e f = true)) : isStructureV x = false := by
  rw [← Bool.not_eq_true, isStruc_iff]; exact h
theorem l16Size_spec (a0 a1 a2 : Bool) (x : StrucV) : ACalls1 Tryz.prog 100 [strucSl a0 a1 a2 x] (iv x.labels.length) := by
  refine walk (fun t => t == 1) mixed Go.Proofs.Tryz.func100 rfl rfl rfl (by kernel_rfl) rfl (by simp) (by kernel_rfl) ?_
  simp
theorem l16Is_spec (a0 a1 a2 : Bool) (x : StrucV) : ACalls1 Tryz.prog 108 [strucSl a0 a1 a2 x] (bv (isStructureV x)) := by
  refine walk (fun t => t == 1) mixed Go.Proofs.Tryz.func108 rfl rfl rfl (by kernel_rfl) rfl (by simp) (by kernel_rfl) ?_
  simp
  refine ⟨_, l16Size_spec _ _ _ x, ?_⟩
  by_cases h1 : x.labels.length ≤ 16
  · by_cases h2 : x.below.length = x.labels.length
    · by_cases h3 : x.clash.length = x.labels.length
      · obtain ⟨n, hn⟩ : ∃ n, n = x.labels.length := ⟨_, rfl⟩
        simp [h2, h3, ← hn, show ¬ (16 : Int) < n by omega]
        refine awp_loop2 [1, 3] [] (fun k : Nat => [(4, iv k)]) (fun _ => []) (fun k => k ≤ n ∧ ∀ e, e < k → evOk x n e = true) (fun k => n - k) 0 (weak_mk some (by simp) (by simp) rfl) (by simp) ?_
        rintro k ⟨hk, hi⟩
        by_cases hlt : k < n
        · have no : evOk x n k = false → isStructureV x = false := fun hf => isStruc_no fun hh => by
            have := hh.2.2.2.1 k (by omega)
            rw [← hn, hf] at this; cases this
          have go : evOk x n k = true → ∀ e, e < k + 1 → evOk x n e = true := fun ht e he => by
            by_cases e1 : e = k
            · subst e1; exact ht
            · exact hi e (by omega)
          simp [hlt, h2, h3, ← hn]
          refine ⟨_, l01Full_spec _ (by unfold I64; omega), ?_⟩
          simp
          refine ⟨_, l01In_spec _ _ _, ?_⟩
          unfold evOk at no go
          cases hb1 : (decide (0 ≤ nth x.below k) && decide (nth x.below k ≤ full n))
          · have e1 : isM n (nth x.below k) = false := hb1
            simp
            exact no (by simp [e1])
          · have e1 : isM n (nth x.below k) = true := hb1
            simp [hlt, h2, h3, ← hn]
            refine ⟨_, l01Full_spec _ (by unfold I64; omega), ?_⟩
            simp
            refine ⟨_, l01In_spec _ _ _, ?_⟩
            cases hb2 : (decide (0 ≤ nth x.clash k) && decide (nth x.clash k ≤ full n))
            · have e2 : isM n (nth x.clash k) = false := hb2
              simp
              exact no (by simp [e2])
            · have e2 : isM n (nth x.clash k) = true := hb2
              simp [hlt, h2, h3, ← hn]
              refine ⟨_, l01In_spec _ _ _, ?_⟩
              cases hb3 : (decide (0 ≤ nth x.labels k) && decide (nth x.labels k ≤ 7))
              · simp
                exact no (by simp only [hb3]; simp)
              · simp [hlt, h2, h3, ← hn]
                refine ⟨_, l01Bit_spec _ (isM_spec (by omega) e1).1 k (by omega), ?_⟩
                cases hb4 : tb (nth x.below k) k
                · simp [hlt, h2, h3, ← hn]
                  refine ⟨_, l01Bit_spec _ (isM_spec (by omega) e2).1 k (by omega), ?_⟩
                  cases hb5 : tb (nth x.clash k) k
                  · simp [wrap_id ((k : Int) + 1) (by omega) (by omega)]
                    exact Round.mk (k + 1) (weak_mk some (by simp) (by simp) rfl) ⟨hlt, go (by simp only [e1, e2, hb3, hb4, hb5]; rfl)⟩ (by omega)
                  · simp
                    exact no (by simp [hb5])
                · simp
                  exact no (by simp [hb4])
        · obtain rfl : k = n := by omega
          simp
          refine awp_loop2 [1, 3] [] (fun e : Nat => [(5, iv e)]) (fun _ => []) (fun e => e ≤ k ∧ ∀ e', e' < e → ∀ f, f < k → pairOk x e' f = true) (fun e => k - e) 0 (weak_mk some (by simp) (by simp) rfl) (by simp) ?_
          rintro e ⟨he, hpe⟩
          by_cases hel : e < k
          · simp [hel]
            refine awp_loop2 [1, 3, 5] [] (fun f : Nat => [(6, iv f)]) (fun _ => []) (fun f => f ≤ k ∧ ∀ f', f' < f → pairOk x e f' = true) (fun f => k - f) 0 (weak_mk some (by simp) (by simp) rfl) (by simp) ?_
            rintro f ⟨hf, hpf⟩
            by_cases hfl : f < k
            · have no : pairOk x e f = false → isStructureV x = false := fun hf' => isStruc_no fun hh => by
                have := hh.2.2.2.2 e (by omega) f (by omega)
                rw [hf'] at this; cases this
              have go : pairOk x e f = true → ∀ f', f' < f + 1 → pairOk x e f' = true := fun ht f' hf' => by
                by_cases e1 : f' = f
                · subst e1; exact ht
                · exact hpf f' (by omega)
              have oke := hi e hel
              have okf := hi f hfl
              unfold evOk at oke okf
              simp only [Bool.and_eq_true] at oke okf
              have Me := (isM_spec (by omega) oke.1.1.1.1).1
              have Ce := (isM_spec (by omega) oke.1.1.1.2).1
              have Cf := (isM_spec (by omega) okf.1.1.1.2).1
              unfold pairOk sub2 at no go
              simp [hfl, hel, h2, h3, ← hn]
              refine ⟨_, l01Bit_spec _ Me f (by omega), ?_⟩
              cases hb1 : tb (nth x.below e) f
              · simp [hfl, hel, h2, h3, ← hn]
                refine ⟨_, l01Bit_spec _ Ce f (by omega), ?_⟩
                simp [hfl, hel, h2, h3, ← hn]
                refine ⟨_, l01Bit_spec _ Cf e (by omega), ?_⟩
                by_cases hb2 : tb (nth x.clash e) f = tb (nth x.clash f) e
                · simp [hb2, wrap_id ((f : Int) + 1) (by omega) (by omega)]
                  exact Round.mk (f + 1) (weak_mk some (by simp) (by simp) rfl) ⟨hfl, go (by simp [hb1, hb2])⟩ (by omega)
                · simp [hb2]
                  exact no (by simp [hb1, hb2])
              · by_cases hA : ibits .andNot .i64 (nth x.below f) (nth x.below e) = 0
                · by_cases hB : ibits .andNot .i64 (nth x.clash f) (nth x.clash e) = 0
                  · simp [hfl, hel, h2, h3, ← hn, hA, hB]
                    refine ⟨_, l01Bit_spec _ Ce f (by omega), ?_⟩
                    simp [hfl, hel, h2, h3, ← hn]
                    refine ⟨_, l01Bit_spec _ Cf e (by omega), ?_⟩
                    by_cases hb2 : tb (nth x.clash e) f = tb (nth x.clash f) e
                    · simp [hb2, wrap_id ((f : Int) + 1) (by omega) (by omega)]
                      exact Round.mk (f + 1) (weak_mk some (by simp) (by simp) rfl) ⟨hfl, go (by simp [hb1, hb2, hA, hB])⟩ (by omega)
                    · simp [hb2]
                      exact no (by simp [hb1, hb2])
                  · simp [hfl, hel, h2, h3, ← hn, hA, hB]
                    exact no (by simp [hb1, hA, hB])
                · simp [hfl, hel, h2, h3, ← hn, hA]
                  exact no (by simp [hb1, hA])
            · obtain rfl : f = k := by omega
              simp [wrap_id ((e : Int) + 1) (by omega) (by omega)]
              refine Round.mk (e + 1) (weak_mk some (by simp) (by simp) rfl) ⟨hel, fun e' he' f' hf' => ?_⟩ (by omega)
              by_cases e1 : e' = e
              · subst e1; exact hpf f' hf'
              · exact hpe e' (by omega) f' hf'
          · obtain rfl : e = k := by omega
            simp
            exact isStruc_iff.2 ⟨by omega, h2, h3, by rw [← hn]; exact hi, by rw [← hn]; exact hpe⟩
      · simp [h2, h3, show ¬ (16 : Int) < x.labels.length by omega]
        exact isStruc_no fun hh => h3 hh.2.2.1
    · simp [h2, show ¬ (16 : Int) < x.labels.length by omega]
      exact isStruc_no fun hh => h2 hh.2.1
  · simp [show (16 : Int) < x.labels.length by omega]
    exact isStruc_no fun hh => h1 hh.1
theorem rel_of {n : Nat} {l : List Int} (hl : l.length = n) (hn : n ≤ 16) (h : ∀ e, e < n → isM n (nth l e) = true) : isRel l = true := by
  unfold isRel
  simp only [Bool.and_eq_true, decide_eq_true_eq, List.all_eq_true]
  refine ⟨by omega, fun y hy => ?_⟩
  obtain ⟨i, hi, rfl⟩ := List.mem_iff_getElem.1 hy
  rw [← nth_at hi, hl]; exact h i (by omega)
theorem struc_rel {x : StrucV} (h : isStructureV x = true) : isRel x.below = true ∧ isRel x.clash = true ∧ (x.labels.all fun y => decide (0 ≤ y) && decide (y ≤ 7)) = true ∧ conv x.clash = x.clash := by
  obtain ⟨h1, h2, h3, h4, h5⟩ := isStruc_iff.1 h
  have ev := fun e he => by have := h4 e he; unfold evOk at this; simp only [Bool.and_eq_true] at this; exact this
  have r2 : isRel x.clash = true := rel_of h3 h1 fun e he => (ev e he).1.1.1.2
  refine ⟨rel_of h2 h1 fun e he => (ev e he).1.1.1.1, r2, ?_, ?_⟩
  · rw [List.all_eq_true]
    intro y hy
    obtain ⟨i, hi, rfl⟩ := List.mem_iff_getElem.1 hy
    rw [← nth_at hi]; simpa using (ev i hi).1.1.2
  · obtain ⟨_, hm⟩ := isRel_spec r2
    apply list_ext (conv_length _)
    intro k hk
    rw [conv_length] at hk
    rw [conv_nth hk]
    obtain ⟨Mk, bk⟩ := isM_spec (by omega) (hm k hk)
    apply tb_ext (M_orMask _ M_zero _ (by omega)) Mk
    intro i _
    rw [tb_orMask _ M_zero _ _ (by omega)]
    by_cases hi : i < x.clash.length
    · have := h5 k (by omega) i (by omega)
      unfold pairOk at this
      simp only [Bool.and_eq_true, beq_iff_eq] at this
      simp [hi, this.2]
    · simp [hi, bk i (by omega)]
theorem IsStructure_spec (a0 a1 a2 : Bool) (x : StrucV) (hx : StructureOk x) : ACalls1 Tryz.prog 24 [strucSl a0 a1 a2 x] (bv (isStructureV x)) := by
  obtain ⟨k1, k2, k3⟩ := hx
  refine walk (fun t => t == 1 || t == 1044) mixed Go.Proofs.Tryz.func24 rfl rfl rfl (by kernel_rfl) rfl (by simp) (by kernel_rfl) ?_
  simp
  refine ⟨_, length_spec _ _ k1.1, ?_⟩
  by_cases h1 : x.below.length ≤ 16
  · simp [show ¬ (16 : Int) < x.below.length by omega]
    refine ⟨_, length_spec _ _ k2.1, ?_⟩
    by_cases h2 : x.clash.length = x.below.length
    · simp [h2]
      refine ⟨_, length_spec _ _ k3.1, ?_⟩
      by_cases h3 : x.labels.length = x.below.length
      · obtain ⟨n, hn⟩ : ∃ n, n = x.below.length := ⟨_, rfl⟩
        simp [h3]
        refine ⟨_, IsRelation_spec _ _ k1.1, ?_⟩
        cases hr1 : isRel x.below
        · simp
          rw [← Bool.not_eq_true]; intro hh; rw [(struc_rel hh).1] at hr1; cases hr1
        · simp
          refine ⟨_, IsRelation_spec _ _ k2.1, ?_⟩
          cases hr2 : isRel x.clash
          · simp
            rw [← Bool.not_eq_true]; intro hh; rw [(struc_rel hh).2.1] at hr2; cases hr2
          · simp
            refine ⟨_, allIn_spec _ _ _ _ k3.1, ?_⟩
            cases hr3 : x.labels.all fun y => decide (0 ≤ y) && decide (y ≤ 7)
            · simp
              rw [← Bool.not_eq_true]; intro hh; rw [(struc_rel hh).2.2.1] at hr3; cases hr3
            · simp
              refine ⟨_, converse_spec _ _ hr2, ?_⟩
              simp
              refine ⟨_, Equal_spec _ _ _ _ (by unfold Fits; rw [conv_length]; omega), ?_⟩
              cases hc : conv x.clash == x.clash
              · simp
                first | refine ⟨⟨by kernel_rfl, by kernel_rfl⟩, ?_⟩ | exact ⟨by kernel_rfl, by kernel_rfl⟩
                rw [← Bool.not_eq_true]; intro hh; rw [(struc_rel hh).2.2.2] at hc; simp at hc
              · simp
                first | refine ⟨⟨by kernel_rfl, by kernel_rfl⟩, ?_⟩ | exact ⟨by kernel_rfl, by kernel_rfl⟩
                rw [beq_iff_eq] at hc
                obtain ⟨_, hm1⟩ := isRel_spec hr1
                obtain ⟨_, hm2⟩ := isRel_spec hr2
                rw [h2] at hm2
                rw [← hn] at hm1 hm2
                have hlab : ∀ e, e < n → (decide (0 ≤ nth x.labels e) && decide (nth x.labels e ≤ 7)) = true := fun e he => List.all_eq_true.1 hr3 _ (nth_mem (by omega))
                have hsym : ∀ e f, e < n → f < n → tb (nth x.clash e) f = tb (nth x.clash f) e := by
                  intro e f he hf
                  have : tb (nth (conv x.clash) e) f = tb (nth x.clash e) f := by rw [hc]
                  rw [conv_nth (by omega), tb_orMask _ M_zero _ _ (by omega)] at this
                  rw [← this]; simp [show f < x.clash.length by omega]
                refine awp_loop2 [1, 51] [] (fun k : Nat => [(52, iv k)]) (fun _ => []) (fun k => k ≤ n ∧ ∀ e, e < k → (tb (nth x.below e) e = false ∧ tb (nth x.clash e) e = false) ∧ ∀ f, f < n → tb (nth x.below e) f = true → sub2 x e f = true) (fun k => n - k) 0 (weak_mk some (by simp [hn]) (by simp) rfl) (by simp) ?_
                rintro k ⟨hk, hi⟩
                by_cases hlt : k < n
                · have hltb : k < x.below.length := by omega
                  have M1 := (isM_spec (by omega) (hm1 k hlt)).1
                  have M2 := (isM_spec (by omega) (hm2 k hlt)).1
                  simp [hltb, h2]
                  refine ⟨_, has_spec _ M1 k (by omega), ?_⟩
                  have evk : isStructureV x = true → tb (nth x.below k) k = false ∧ tb (nth x.clash k) k = false := fun hh => by
                    have := (isStruc_iff.1 hh).2.2.2.1 k (by omega)
                    unfold evOk at this
                    simp only [Bool.and_eq_true, Bool.not_eq_true'] at this
                    exact ⟨this.1.2, this.2⟩
                  have prk : isStructureV x = true → ∀ f, f < n → tb (nth x.below k) f = true → sub2 x k f = true := fun hh f hf ht => by
                    have := (isStruc_iff.1 hh).2.2.2.2 k (by omega) f (by omega)
                    unfold pairOk at this
                    rw [ht] at this
                    simp only [Bool.and_eq_true, Bool.not_true, Bool.false_or] at this
                    exact this.1
                  cases hb4 : tb (nth x.below k) k
                  · simp [hltb, h2]
                    refine ⟨_, has_spec _ M2 k (by omega), ?_⟩
                    cases hb5 : tb (nth x.clash k) k
                    · simp [hltb, h2]
                      refine ⟨_, members_spec _ M1, ?_⟩
                      have hbl := bitsOf_length (nth x.below k)
                      have hmem := fun y (hy : y ∈ bitsOf (nth x.below k)) => bitsOf_mem hy
                      have hall : ∀ f : Nat, f < 63 → tb (nth x.below k) f = true → (f : Int) ∈ bitsOf (nth x.below k) := by
                        intro f hf ht
                        unfold bitsOf
                        exact List.mem_map.2 ⟨f, List.mem_filter.2 ⟨List.mem_range.2 hf, ht⟩, rfl⟩
                      generalize bitsOf (nth x.below k) = bs at *
                      simp
                      refine awp_loop2 [1, 4, 51, 52, 76, 77] [76] (fun j : Nat => [(78, iv j)]) (fun _ => []) (fun j => j ≤ bs.length ∧ ∀ y ∈ bs.take j, sub2 x k y.toNat = true) (fun j => bs.length - j) 0 (weak_mk some (by simp) (by simp) rfl) (by simp) ?_
                      rintro j ⟨hj, hjs⟩
                      by_cases hjl : j < bs.length
                      · obtain ⟨c, hc1, hc63, hct⟩ := hmem _ (nth_mem hjl)
                        have hcl : c < n := by
                          apply Nat.lt_of_not_le
                          intro hle
                          rw [(isM_spec (by omega) (hm1 k hlt)).2 c hle] at hct; cases hct
                        have hcb : c < x.below.length := by omega
                        have prc := fun hh => prk hh c hcl hct
                        unfold sub2 at prc
                        by_cases hA : ibits .andNot .i64 (nth x.below c) (nth x.below k) = 0
                        · by_cases hB : ibits .andNot .i64 (nth x.clash c) (nth x.clash k) = 0
                          · simp [hjl, hc1, hltb, h2, hcb, show j + 1 ≤ bs.length from hjl, hA, hB, wrap_id ((j : Int) + 1) (by omega) (by omega)]
                            refine Round.mk (j + 1) (weak_mk some (by simp) (by simp) rfl) ⟨hjl, fun y hy => ?_⟩ (by omega)
                            have e : bs.getD j 0 = nth bs j := rfl
                            rw [take_succ _ _ hjl, List.mem_append, e, hc1] at hy
                            rcases hy with hy | hy
                            · exact hjs y hy
                            · simp at hy; subst hy
                              simp [sub2, hA, hB]
                          · simp [hjl, hc1, hltb, h2, hcb, show j + 1 ≤ bs.length from hjl, hA, hB]
                            rw [← Bool.not_eq_true]; intro hh
                            have := prc hh
                            simp [hA, hB] at this
                        · simp [hjl, hc1, hltb, h2, hcb, show j + 1 ≤ bs.length from hjl, hA]
                          rw [← Bool.not_eq_true]; intro hh
                          have := prc hh
                          simp [hA] at this
                      · obtain rfl : j = bs.length := by omega
                        simp [wrap_id ((k : Int) + 1) (by omega) (by omega)]
                        refine Round.mk (k + 1) (weak_mk some (by simp) (by simp) rfl) ⟨hlt, fun e he => ?_⟩ (by omega)
                        by_cases e1 : e = k
                        · subst e1
                          refine ⟨⟨hb4, hb5⟩, fun f hf ht => ?_⟩
                          have := hjs (f : Int) (by rw [List.take_length]; exact hall f (by omega) ht)
                          simpa using this
                        · exact hi e (by omega)
                    · simp
                      rw [← Bool.not_eq_true]; intro hh; rw [(evk hh).2] at hb5; cases hb5
                  · simp
                    rw [← Bool.not_eq_true]; intro hh; rw [(evk hh).1] at hb4; cases hb4
                · obtain rfl : k = n := by omega
                  simp [← hn]
                  refine isStruc_iff.2 ⟨by omega, by omega, by omega, fun e he => ?_, fun e he f hf => ?_⟩
                  · rw [h3, ← hn] at he ⊢
                    have l1 := hlab e he
                    have i1 := hi e he
                    unfold evOk
                    simp only [hm1 e he, hm2 e he, l1, i1.1.1, i1.1.2]; rfl
                  · rw [h3, ← hn] at he hf
                    unfold pairOk
                    rw [hsym e f he hf]
                    cases ht : tb (nth x.below e) f
                    · simp
                    · simp [(hi e he).2 f hf ht]
      · simp [h3]
        exact isStruc_no fun hh => h3 hh.2.1.symm
    · simp [h2]
      exact isStruc_no fun hh => h2 (hh.2.2.1.trans hh.2.1.symm)
  · simp [show (16 : Int) < x.below.length by omega]
    exact isStruc_no fun hh => h1 (by omega)
theorem specIsStructure_spec (a0 a1 a2 : Bool) (x : StrucV) (hx : StructureOk x) : ACalls1 Tryz.prog 38 [strucSl a0 a1 a2 x] (bv (isStructureV x)) := by
  refine walk (fun t => t == 1) mixed Go.Proofs.Tryz.func38 rfl rfl rfl (by kernel_rfl) rfl (by simp) (by kernel_rfl) ?_
  simp
  refine ⟨_, l16Is_spec _ _ _ x, ?_⟩
  simp
end Go.AM
