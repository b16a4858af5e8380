/-
  Contracts: alphabets; structures of traces.
-/
import Derived.Test.YthabclhldlikfaaGreatDoorFnS
import Derived.Test.YthabclhldlikfaaGreatDoorFnTA
set_option linter.unusedVariables false
set_option linter.unusedSimpArgs false
set_option maxRecDepth 100000
set_option maxHeartbeats 1600000
namespace Go.AM
open Go.Proofs
def depB (x : AlphaV) (a b : Nat) : Bool := tb (nth x.depends a) b
def alphaRow (x : AlphaV) (a : Nat) : Bool := depB x a a && (List.range x.depends.length).all fun b => depB x a b == depB x b a
def isAlphaV (x : AlphaV) : Bool := (decide (0 ≤ x.letters) && decide (x.letters ≤ 8)) && decide ((x.depends.length : Int) = x.letters) && x.depends.all (isM x.depends.length) && (List.range x.depends.length).all (alphaRow x)
structure AlOk (x : AlphaV) : Prop where
  len : x.depends.length ≤ 8
  let_ : x.letters = x.depends.length
  m : ∀ a, a < x.depends.length → isM x.depends.length (nth x.depends a) = true
theorem all_nth {l : List Int} {p : Int → Bool} : l.all p = true ↔ ∀ i, i < l.length → p (nth l i) = true := by
  rw [List.all_eq_true]
  constructor
  · intro h i hi; exact h _ (nth_mem hi)
  · intro h x hx
    obtain ⟨i, hi, rfl⟩ := List.mem_iff_getElem.1 hx
    rw [← nth_at hi]; exact h i hi
theorem alOk_of {x : AlphaV} (h : isAlphaV x = true) : AlOk x := by
  unfold isAlphaV at h
  simp only [Bool.and_eq_true, decide_eq_true_eq] at h
  obtain ⟨⟨⟨⟨h1, h2⟩, h3⟩, h4⟩, h5⟩ := h
  exact ⟨by omega, h3.symm, all_nth.1 h4⟩
theorem alOk_M {x : AlphaV} (h : AlOk x) {a : Nat} (ha : a < x.depends.length) : M (nth x.depends a) ∧ ∀ i, x.depends.length ≤ i → tb (nth x.depends a) i = false :=
  isM_spec (by have := h.len; omega) (h.m a ha)
theorem l01Masks_spec (nn : Bool) (n : Int) (hn : I64 n) (l : List Int) (hl : Fits l) : ACalls1 Tryz.prog 172 [iv n, .sl 1 nn (ints l)] (bv (l.all fun y => decide (0 ≤ y) && decide (y ≤ full n))) := by
  unfold Fits at hl
  refine walk (fun _ => false) mixed Go.Proofs.Tryz.func172 rfl rfl rfl (by kernel_rfl) rfl (by simp) (by kernel_rfl) ?_
  simp
  refine awp_loop2 [0, 1] [] (fun k : Nat => [(5, iv k)]) (fun _ => []) (fun k => k ≤ l.length ∧ ∀ j, j < k → (decide (0 ≤ nth l j) && decide (nth l j ≤ full n)) = true) (fun k => l.length - k) 0 (weak_mk some (by simp) (by simp) rfl) ⟨by simp, fun j hj => by omega⟩ ?_
  rintro k ⟨hk, hall⟩
  by_cases hkl : k < l.length
  · simp [hkl]
    repeat (rw [exE_eq]; simp [hkl])
    refine ⟨_, l01Full_spec n hn, ?_⟩
    simp
    refine ⟨_, l01In_spec _ _ _, ?_⟩
    cases hb : (decide (0 ≤ nth l k) && decide (nth l k ≤ full n))
    · have : (l.all fun y => decide (0 ≤ y) && decide (y ≤ full n)) = false := by
        rw [← Bool.not_eq_true, all_nth]
        intro h; rw [h k hkl] at hb; cases hb
      simp [this]
    · simp [wrap_id ((k : Int) + 1) (by omega) (by omega)]
      refine Round.mk (k + 1) (weak_mk some (by simp) (by simp) rfl) ⟨hkl, fun j hj => ?_⟩ (by omega)
      by_cases e : j = k
      · subst e; simpa using hb
      · simpa using hall j (by omega)
  · obtain rfl : k = l.length := by omega
    have : (l.all fun y => decide (0 ≤ y) && decide (y ≤ full n)) = true := all_nth.2 hall
    simp [this]
theorem l02Is_spec (a0 : Bool) (x : AlphaV) (hx : I64 x.letters) (hl : Fits x.depends) : ACalls1 Tryz.prog 109 [alphaSl a0 x] (bv (isAlphaV x)) := by
  have hl' := hl
  unfold Fits at hl'
  refine walk (fun t => t == 1) mixed Go.Proofs.Tryz.func109 rfl rfl rfl (by kernel_rfl) rfl (by simp) (by kernel_rfl) ?_
  simp
  refine ⟨_, l01In_spec _ _ _, ?_⟩
  cases h1 : (decide (0 ≤ x.letters) && decide (x.letters ≤ 8))
  · have : isAlphaV x = false := by simp only [isAlphaV, h1, Bool.false_and]
    simp [this]
  · by_cases h2 : (x.depends.length : Int) = x.letters
    · simp [h2]
      refine ⟨_, l01Masks_spec _ _ hx _ hl, ?_⟩
      rw [← h2]
      by_cases h3 : (x.depends.all fun y => decide (0 ≤ y) && decide (y ≤ full x.depends.length)) = true
      · have h3' : x.depends.all (isM x.depends.length) = true := h3
        have h8 : x.depends.length ≤ 8 := by
          simp only [Bool.and_eq_true, decide_eq_true_eq] at h1; omega
        have hok : AlOk x := ⟨h8, h2.symm, all_nth.1 h3'⟩
        have hval : isAlphaV x = (List.range x.depends.length).all (alphaRow x) := by simp only [isAlphaV, h1, h2, h3', decide_true, Bool.true_and]
        simp [h3]
        refine awp_loop2 [1] [] (fun a : Nat => [(3, iv a)]) (fun _ => []) (fun a => a ≤ x.depends.length ∧ ∀ j, j < a → alphaRow x j = true) (fun a => x.depends.length - a) 0 (weak_mk some (by simp) (by simp) rfl) ⟨by simp, fun j hj => by omega⟩ ?_
        rintro a ⟨ha, hall⟩
        by_cases hal : a < x.depends.length
        · obtain ⟨m1, m2⟩ := alOk_M hok hal
          simp [hal, ← h2]
          refine ⟨_, l01Bit_spec _ m1 a (by omega), ?_⟩
          cases hb : tb (nth x.depends a) a
          · have : isAlphaV x = false := by
              rw [hval, ← Bool.not_eq_true, List.all_eq_true]
              intro h
              have := h a (List.mem_range.2 hal)
              simp [alphaRow, depB, hb] at this
            simp [this]
          · simp
            refine awp_loop2 [1, 3] [] (fun b : Nat => [(4, iv b)]) (fun _ => []) (fun b => b ≤ x.depends.length ∧ ∀ j, j < b → depB x a j = depB x j a) (fun b => x.depends.length - b) 0 (weak_mk some (by simp) (by simp) rfl) ⟨by simp, fun j hj => by omega⟩ ?_
            rintro b ⟨hbl, hallb⟩
            by_cases hbl' : b < x.depends.length
            · obtain ⟨n1, n2⟩ := alOk_M hok hbl'
              simp [hal, hbl', ← h2]
              repeat (rw [exE_eq]; simp [hal, hbl', ← h2])
              refine ⟨_, l01Bit_spec _ m1 b (by omega), ?_⟩
              simp [hal, hbl']
              repeat (rw [exE_eq]; simp [hal, hbl'])
              refine ⟨_, l01Bit_spec _ n1 a (by omega), ?_⟩
              by_cases he : tb (nth x.depends a) b = tb (nth x.depends b) a
              · simp [he, wrap_id ((b : Int) + 1) (by omega) (by omega)]
                refine Round.mk (b + 1) (weak_mk some (by simp) (by simp) rfl) ⟨hbl', fun j hj => ?_⟩ (by omega)
                by_cases e : j = b
                · subst e; exact he
                · exact hallb j (by omega)
              · have : isAlphaV x = false := by
                  rw [hval, ← Bool.not_eq_true, List.all_eq_true]
                  intro h
                  have := h a (List.mem_range.2 hal)
                  simp only [alphaRow, Bool.and_eq_true, List.all_eq_true, beq_iff_eq] at this
                  exact he (this.2 b (List.mem_range.2 hbl'))
                simp [he, this]
            · obtain rfl : b = x.depends.length := by omega
              simp [← h2, wrap_id ((a : Int) + 1) (by omega) (by omega)]
              refine Round.mk (a + 1) (weak_mk some (by simp) (by simp) rfl) ⟨hal, fun j hj => ?_⟩ (by omega)
              by_cases e : j = a
              · subst e
                simp only [alphaRow, Bool.and_eq_true, List.all_eq_true, beq_iff_eq, List.mem_range]
                exact ⟨hb, hallb⟩
              · exact hall j (by omega)
        · obtain rfl : a = x.depends.length := by omega
          have : isAlphaV x = true := by
            rw [hval, List.all_eq_true]
            intro j hj; exact hall j (List.mem_range.1 hj)
          simp [← h2, this]
      · have h3' : x.depends.all (isM x.depends.length) = false := by rw [← Bool.not_eq_true]; exact h3
        have : isAlphaV x = false := by simp only [isAlphaV, h3', Bool.and_false, Bool.false_and]
        rw [Bool.not_eq_true] at h3
        simp [h3, this]
    · have : isAlphaV x = false := by simp only [isAlphaV, h2, decide_false, Bool.and_false, Bool.false_and]
      simp [h2, this]
theorem conv_row {x : AlphaV} (h : AlOk x) {i : Nat} (hi : i < x.depends.length) : (nth (conv x.depends) i = nth x.depends i ∧ tb (nth (conv x.depends) i) i = true) ↔ alphaRow x i = true := by
  have h8 := h.len
  obtain ⟨m1, m2⟩ := alOk_M h hi
  have hc : ∀ j, tb (nth (conv x.depends) i) j = (decide (j < x.depends.length) && depB x j i) := fun j => by
    rw [conv_nth hi, tb_orMask _ M_zero _ _ (by omega)]; simp [depB]
  simp only [alphaRow, Bool.and_eq_true, List.all_eq_true, beq_iff_eq, List.mem_range]
  constructor
  · rintro ⟨e, b⟩
    refine ⟨by rw [e] at b; exact b, fun j hj => ?_⟩
    have := hc j
    rw [e] at this
    simpa [hj, depB] using this
  · rintro ⟨b, hs⟩
    have e : nth (conv x.depends) i = nth x.depends i := by
      apply tb_ext (by rw [conv_nth hi]; exact M_orMask _ M_zero _ (by omega)) m1
      intro j _
      rw [hc j]
      by_cases hj : j < x.depends.length
      · rw [← hs j hj]; simp [hj, depB]
      · rw [m2 j (by omega)]; simp [hj]
    exact ⟨e, by rw [e]; exact b⟩
theorem IsAlphabet_spec (a0 : Bool) (x : AlphaV) (hx : I64 x.letters) (hl : Fits x.depends) : ACalls1 Tryz.prog 90 [alphaSl a0 x] (bv (isAlphaV x)) := by
  have hl' := hl
  unfold Fits at hl'
  refine walk (fun t => t == 1) mixed Go.Proofs.Tryz.func90 rfl rfl rfl (by kernel_rfl) rfl (by simp) (by kernel_rfl) ?_
  simp
  refine ⟨_, inRange_spec _ _ _, ?_⟩
  cases h1 : (decide (0 ≤ x.letters) && decide (x.letters ≤ 8))
  · have : isAlphaV x = false := by simp only [isAlphaV, h1, Bool.false_and]
    simp [this]
    repeat (rw [exE_eq]; simp [this])
  · simp
    repeat (rw [exE_eq]; simp)
    refine ⟨_, length_spec _ _ hl, ?_⟩
    by_cases h2 : (x.depends.length : Int) = x.letters
    · have h8 : x.depends.length ≤ 8 := by
        simp only [Bool.and_eq_true, decide_eq_true_eq] at h1; omega
      simp [h2]
      repeat (rw [exE_eq]; simp [h2])
      refine ⟨_, IsRelation_spec _ _ hl, ?_⟩
      have hrel : isRel x.depends = x.depends.all (isM x.depends.length) := by
        unfold isRel
        rw [show decide ((x.depends.length : Int) ≤ 24) = true by simp; omega, Bool.true_and]
      rw [hrel]
      cases h3 : x.depends.all (isM x.depends.length)
      · have : isAlphaV x = false := by simp only [isAlphaV, h3, Bool.and_false, Bool.false_and]
        simp [this]
      · have hok : AlOk x := ⟨h8, h2.symm, all_nth.1 h3⟩
        have hval : isAlphaV x = (List.range x.depends.length).all (alphaRow x) := by simp only [isAlphaV, h1, h2, h3, decide_true, Bool.true_and]
        have hcl := conv_length x.depends
        simp
        refine ⟨_, converse_spec _ _ (by rw [hrel]; exact h3), ?_⟩
        simp [hcl]
        refine awp_loop2 [1, 25, 26] [25] (fun a : Nat => [(27, iv a)]) (fun _ => []) (fun a => a ≤ x.depends.length ∧ ∀ j, j < a → alphaRow x j = true) (fun a => x.depends.length - a) 0 (weak_mk some (by simp) (by simp) rfl) ⟨by simp, fun j hj => by omega⟩ ?_
        rintro a ⟨ha, hall⟩
        by_cases hal : a < x.depends.length
        · have hM : M (nth (conv x.depends) a) := by rw [conv_nth hal]; exact M_orMask _ M_zero _ (by omega)
          have hcr := conv_row hok hal
          have hno : alphaRow x a = false → isAlphaV x = false := fun h => by
            rw [hval, ← Bool.not_eq_true, List.all_eq_true]
            intro h'
            rw [h' a (List.mem_range.2 hal)] at h; cases h
          by_cases he : nth (conv x.depends) a = nth x.depends a
          · rw [he] at hM
            simp [hal, show a + 1 ≤ x.depends.length from hal, hcl, he]
            refine ⟨_, has_spec _ hM a (by omega), ?_⟩
            cases hb : tb (nth x.depends a) a
            · have := hno (by rw [← Bool.not_eq_true, ← hcr, he, hb]; simp)
              simp [this]
            · have := hcr.1 ⟨he, by rw [he]; exact hb⟩
              simp [wrap_id ((a : Int) + 1) (by omega) (by omega)]
              refine Round.mk (a + 1) (weak_mk some (by simp) (by simp) rfl) ⟨hal, fun j hj => ?_⟩ (by omega)
              by_cases e : j = a
              · subst e; exact this
              · exact hall j (by omega)
          · have := hno (by rw [← Bool.not_eq_true, ← hcr]; exact fun h => he h.1)
            simp [hal, show a + 1 ≤ x.depends.length from hal, hcl, he, this]
        · obtain rfl : a = x.depends.length := by omega
          have : isAlphaV x = true := by
            rw [hval, List.all_eq_true]
            intro j hj; exact hall j (List.mem_range.1 hj)
          simp [this]
    · have : isAlphaV x = false := by simp only [isAlphaV, h2, decide_false, Bool.and_false, Bool.false_and]
      simp [h2, this]
      repeat (rw [exE_eq]; simp [h2, this])
end Go.AM
