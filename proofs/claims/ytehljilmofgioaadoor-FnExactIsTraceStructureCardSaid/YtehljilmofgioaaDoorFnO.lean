/-
  IsTraceStructure.
-/
import Derived.Test.YtehljilmofgioaaDoorFnN
set_option linter.unusedVariables false
set_option linter.unusedSimpArgs false
set_option maxRecDepth 100000
set_option maxHeartbeats 1600000
namespace Go.AM
open Go.Proofs
def cvG (s : StrucV) (e f g : Nat) : Bool := tb (nth s.below f) g && tb (nth s.below g) e
def covB (s : StrucV) (e f : Nat) : Bool := tb (nth s.below f) e && (List.range s.labels.length).all fun g => !(tb (nth s.below f) g && tb (nth s.below g) e)
theorem l02DepA_spec (a0 : Bool) (x : AlphaV) (hx : AlOk x) (a b : Nat) (ha : a < x.depends.length) (hb : b < x.depends.length) : ACalls1 Tryd.prog 61 [alphaSl a0 x, iv a, iv b] (bv (depB x a b)) := by
  have h8 := hx.len
  refine walk (fun t => t == 3) mixed Go.Proofs.Tryd.func61 rfl rfl rfl (by kernel_rfl) rfl (by simp) (by kernel_rfl) ?_
  simp [ha]
  refine ⟨_, l01Bit_spec _ (alOk_M hx ha).1 b (by omega), ?_⟩
  simp [depB]
theorem depend_spec (a0 : Bool) (x : AlphaV) (hx : AlOk x) (a b : Nat) (ha : a < x.depends.length) (hb : b < x.depends.length) : ACalls1 Tryd.prog 66 [alphaSl a0 x, iv a, iv b] (bv (depB x a b)) := by
  have h8 := hx.len
  refine walk (fun t => t == 3) mixed Go.Proofs.Tryd.func66 rfl rfl rfl (by kernel_rfl) rfl (by simp) (by kernel_rfl) ?_
  simp [ha]
  refine ⟨_, has_spec _ (alOk_M hx ha).1 b (by omega), ?_⟩
  simp [depB]
theorem l16Covers_spec (a0 a1 a2 : Bool) (s : StrucV) (hs : isStructureV s = true) (e f : Nat) (he : e < s.labels.length) (hf : f < s.labels.length) : ACalls1 Tryd.prog 63 [strucSl a0 a1 a2 s, iv e, iv f] (bv (covB s e f)) := by
  obtain ⟨h1, h2, h3⟩ := struc_len hs
  have hMf := (struc_M hs hf).1
  refine walk (fun t => t == 3) mixed Go.Proofs.Tryd.func63 rfl rfl rfl (by kernel_rfl) rfl (by simp) (by kernel_rfl) ?_
  simp
  refine awp_loop2 [1, 2, 3] [] (fun g : Nat => [(7, iv g)]) (fun _ => []) (fun g => g ≤ s.labels.length ∧ ∀ j, j < g → cvG s e f j = false) (fun g => s.labels.length - g) 0 (weak_mk some (by simp) (by simp) rfl) ⟨by simp, fun j hj => by omega⟩ ?_
  rintro g ⟨hg, hall⟩
  simp
  refine ⟨_, l16Size_spec _ _ _ s, ?_⟩
  by_cases hgl : g < s.labels.length
  · have hMg := (struc_M hs hgl).1
    have go : cvG s e f g = false → ∀ j, j < g + 1 → cvG s e f j = false := fun h j hj => by
      by_cases e2 : j = g
      · subst e2; exact h
      · exact hall j (by omega)
    simp [hgl, h2, hf]
    refine ⟨_, l01Bit_spec _ hMf g (by omega), ?_⟩
    cases hb : tb (nth s.below f) g
    · simp [wrap_id ((g : Int) + 1) (by omega) (by omega)]
      exact Round.mk (g + 1) (weak_mk some (by simp) (by simp) rfl) ⟨hgl, go (by rw [cvG, hb]; rfl)⟩ (by omega)
    · simp [hgl, h2]
      refine ⟨_, l01Bit_spec _ hMg e (by omega), ?_⟩
      cases hb2 : tb (nth s.below g) e
      · simp [wrap_id ((g : Int) + 1) (by omega) (by omega)]
        exact Round.mk (g + 1) (weak_mk some (by simp) (by simp) rfl) ⟨hgl, go (by rw [cvG, hb, hb2]; rfl)⟩ (by omega)
      · have : covB s e f = false := by
          unfold covB
          rw [← Bool.not_eq_true, Bool.and_eq_true, List.all_eq_true]
          intro h
          have := h.2 g (List.mem_range.2 hgl)
          rw [hb, hb2] at this; cases this
        simp [this]
  · obtain rfl : g = s.labels.length := by omega
    have : covB s e f = tb (nth s.below f) e := by
      unfold covB
      have e2 : ((List.range s.labels.length).all fun g => !(tb (nth s.below f) g && tb (nth s.below g) e)) = true := by
        rw [List.all_eq_true]
        intro j hj
        have := hall j (List.mem_range.1 hj)
        unfold cvG at this
        rw [this]; rfl
      rw [e2, Bool.and_true]
    simp [h2, hf]
    refine ⟨_, l01Bit_spec _ hMf e (by omega), ?_⟩
    simp [this]
theorem covered1_spec (a0 a1 a2 : Bool) (s : StrucV) (hs : isStructureV s = true) (e : Nat) (he : e < s.labels.length) (k : Nat) (hk : k < s.labels.length) : ACalls1 Tryd.prog 92 [iv k, .ip [.sl 1 a0 (ints s.below), .sl 1 a1 (ints s.clash), .sl 1 a2 (ints s.labels)], .ip [iv e]] (bv (tb (nth s.below k) e)) := by
  obtain ⟨h1, h2, h3⟩ := struc_len hs
  refine walk (fun _ => false) mixed Go.Proofs.Tryd.func92 rfl rfl rfl (by kernel_rfl) rfl (by simp) (by kernel_rfl) ?_
  simp [h2, hk]
  repeat (rw [exE_eq]; simp [h2, hk])
  refine ⟨_, has_spec _ (struc_M hs hk).1 e (by omega), ?_⟩
  simp
theorem covered_spec (a0 a1 a2 : Bool) (s : StrucV) (hs : isStructureV s = true) (e f : Nat) (he : e < s.labels.length) (hf : f < s.labels.length) : ACalls1 Tryd.prog 68 [strucSl a0 a1 a2 s, iv e, iv f] (bv (covB s e f)) := by
  obtain ⟨h1, h2, h3⟩ := struc_len hs
  obtain ⟨hMf, _, hbf, _⟩ := struc_M hs hf
  have hany : (!(bitsOf (nth s.below f)).any fun k => tb (nth s.below k.toNat) e) = (List.range s.labels.length).all fun g => !(tb (nth s.below f) g && tb (nth s.below g) e) := by
    rw [bits_eq (n := s.labels.length) (by omega) hbf, Bool.eq_iff_iff, Bool.not_eq_true', ← Bool.not_eq_true, List.any_eq_true, List.all_eq_true]
    constructor
    · intro h g hg
      rw [Bool.not_eq_true', ← Bool.not_eq_true, Bool.and_eq_true]
      rintro ⟨k1, k2⟩
      exact h ⟨(g : Int), List.mem_map.2 ⟨g, List.mem_filter.2 ⟨hg, k1⟩, rfl⟩, by simpa using k2⟩
    · rintro h ⟨x, hx, k2⟩
      obtain ⟨g, hg, rfl⟩ := List.mem_map.1 hx
      obtain ⟨hg1, hg2⟩ := List.mem_filter.1 hg
      have := h g hg1
      rw [Int.toNat_natCast] at k2
      rw [hg2, k2] at this; cases this
  have hbl := bitsOf_length (nth s.below f)
  refine walk (fun t => t == 3 || t == 4) mixed Go.Proofs.Tryd.func68 rfl rfl rfl (by kernel_rfl) rfl (by simp) (by kernel_rfl) ?_
  simp [h2, hf]
  repeat (rw [exE_eq]; simp [h2, hf])
  refine ⟨_, has_spec _ hMf e (by omega), ?_⟩
  cases hb : tb (nth s.below f) e
  · simp [covB, hb]
  · simp [h2, hf]
    refine ⟨_, members_spec _ hMf, ?_⟩
    simp
    refine ⟨_, ContainsFunc_spec _ _ (by unfold Fits; omega) _ _ (fun k => tb (nth s.below k.toNat) e) (fun k hk => ?_) rfl, ?_⟩
    · obtain ⟨g, rfl, hg, ht⟩ := bitsOf_mem hk
      rw [Int.toNat_natCast]
      refine covered1_spec a0 a1 a2 s hs e he g ?_
      by_cases hx : g < s.labels.length
      · exact hx
      · rw [hbf g (by omega)] at ht; cases ht
    · have : covB s e f = !(bitsOf (nth s.below f)).any fun k => tb (nth s.below k.toNat) e := by
        unfold covB; rw [hany, hb, Bool.true_and]
      simp [this]
def dLab (x : AlphaV) (s : StrucV) (e f : Nat) : Bool := depB x (nth s.labels e).toNat (nth s.labels f).toNat
def tsBad (x : AlphaV) (s : StrucV) (e f : Nat) : Bool :=
  (decide (relOf s e f = 4) && dLab x s e f) || ((covB s e f || immB s e f) && !dLab x s e f) || (immB s e f && decide (nth s.labels e = nth s.labels f))
def labOk (x : AlphaV) (s : StrucV) : Bool := s.labels.all fun y => decide (0 ≤ y) && decide (y ≤ x.letters - 1)
def tsAll (x : AlphaV) (s : StrucV) : Bool := (List.range s.labels.length).all fun e => (List.range s.labels.length).all fun f => !tsBad x s e f
def isTraceStructureV (x : AlphaV) (s : StrucV) : Bool × Int := if isAlphaV x = true then (if isStructureV s = true then (if labOk x s = true then (tsAll x s, 0) else (false, 0)) else (false, 1)) else (false, 1)
theorem tsAll_no {x : AlphaV} {s : StrucV} {e f : Nat} (he : e < s.labels.length) (hf : f < s.labels.length) (h : tsBad x s e f = true) : tsAll x s = false := by
  unfold tsAll
  rw [← Bool.not_eq_true, List.all_eq_true]
  intro h'
  have := h' e (List.mem_range.2 he)
  rw [List.all_eq_true] at this
  have := this f (List.mem_range.2 hf)
  rw [h] at this; cases this
theorem tsAll_yes {x : AlphaV} {s : StrucV} (h : ∀ e, e < s.labels.length → ∀ f, f < s.labels.length → tsBad x s e f = false) : tsAll x s = true := by
  unfold tsAll
  rw [List.all_eq_true]
  intro e he
  rw [List.all_eq_true]
  intro f hf
  rw [h e (List.mem_range.1 he) f (List.mem_range.1 hf)]; rfl
theorem lab_at {x : AlphaV} {s : StrucV} (hx : AlOk x) (h : labOk x s = true) {e : Nat} (he : e < s.labels.length) : ∃ a : Nat, nth s.labels e = a ∧ a < x.depends.length := by
  have := all_nth.1 h e he
  simp only [Bool.and_eq_true, decide_eq_true_eq] at this
  have hl := hx.let_
  exact ⟨(nth s.labels e).toNat, by omega, by omega⟩
theorem IsTraceStructure_spec (b0 : Bool) (x : AlphaV) (hx : AlphabetOk x) (a0 a1 a2 : Bool) (s : StrucV) (hs : StructureOk s) : ACalls1 Tryd.prog 34 [alphaSl b0 x, strucSl a0 a1 a2 s] (.tup [bv (isTraceStructureV x s).1, iv (isTraceStructureV x s).2]) := by
  refine walk (fun t => t == 2 || t == 3) mixed Go.Proofs.Tryd.func34 rfl rfl rfl (by kernel_rfl) rfl (by simp) (by kernel_rfl) ?_
  simp
  refine ⟨_, IsAlphabet_spec b0 x hx.1 hx.2.1, ?_⟩
  unfold isTraceStructureV
  cases hA : isAlphaV x
  · simp
  · have hok := alOk_of hA
    have hl8 := hok.len
    have hll := hok.let_
    simp
    refine ⟨_, IsStructure_spec a0 a1 a2 s hs, ?_⟩
    cases hS : isStructureV s
    · simp
    · obtain ⟨h1, h2, h3⟩ := struc_len hS
      simp [wrap_id (x.letters - 1) (by omega) (by omega)]
      refine ⟨_, allIn_spec _ _ 0 (x.letters - 1) (by unfold Fits; omega), ?_⟩
      have hLe : (s.labels.all fun y => decide (0 ≤ y) && decide (y ≤ x.letters - 1)) = labOk x s := rfl
      rw [hLe]
      cases hL : labOk x s
      · simp
      · simp
        refine ⟨_, length_spec _ _ (by unfold Fits; omega), ?_⟩
        simp [h2]
        refine awp_loop2 [2, 3, 27] [] (fun e : Nat => [(28, iv e)]) (fun _ => []) (fun e => e ≤ s.labels.length ∧ ∀ e', e' < e → ∀ f, f < s.labels.length → tsBad x s e' f = false) (fun e => s.labels.length - e) 0 (weak_mk some (by simp) (by simp) rfl) ⟨by simp, fun j hj => by omega⟩ ?_
        rintro e ⟨he, hall⟩
        by_cases hel : e < s.labels.length
        · simp [hel]
          refine ⟨_, length_spec _ _ (by unfold Fits; omega), ?_⟩
          simp [h2]
          refine awp_loop2 [2, 3, 6, 27, 28, 33] [] (fun f : Nat => [(34, iv f)]) (fun _ => []) (fun f => f ≤ s.labels.length ∧ ∀ f', f' < f → tsBad x s e f' = false) (fun f => s.labels.length - f) 0 (weak_mk some (by simp) (by simp) rfl) ⟨by simp, fun j hj => by omega⟩ ?_
          rintro f ⟨hf, hallf⟩
          by_cases hfl : f < s.labels.length
          · obtain ⟨a, ha, hal⟩ := lab_at hok hL hel
            obtain ⟨b, hb, hbl⟩ := lab_at hok hL hfl
            have hno := fun h => tsAll_no (x := x) hel hfl h
            have go : tsBad x s e f = false → ∀ f', f' < f + 1 → tsBad x s e f' = false := fun h f' hf' => by
              by_cases e2 : f' = f
              · subst e2; exact h
              · exact hallf f' (by omega)
            have hD : dLab x s e f = depB x a b := by simp [dLab, ha, hb]
            have hbd : tsBad x s e f = ((decide (relOf s e f = 4) && depB x a b) || ((covB s e f || immB s e f) && !depB x a b) || (immB s e f && decide ((a : Int) = b))) := by rw [← ha, ← hb, ← hD]; rfl
            simp [hfl, hel, ha, hb]
            repeat (rw [exE_eq]; simp [hfl, hel, ha, hb])
            refine ⟨_, depend_spec b0 x hok a b hal hbl, ?_⟩
            simp
            refine ⟨_, immediate_spec _ _ _ s hS e f hel hfl, ?_⟩
            simp
            refine ⟨_, relation_spec _ _ _ s hS e f hel hfl, ?_⟩
            cases hd : depB x a b
            · by_cases hr : relOf s e f = 4 <;>
              · simp [hr]
                refine ⟨_, covered_spec _ _ _ s hS e f hel hfl, ?_⟩
                cases hi : immB s e f
                · cases hc : covB s e f
                  · simp [wrap_id ((f : Int) + 1) (by omega) (by omega)]
                    repeat (rw [exE_eq]; simp [wrap_id ((f : Int) + 1) (by omega) (by omega)])
                    exact Round.mk (f + 1) (weak_mk some (by simp) (by simp) rfl) ⟨hfl, go (by rw [hbd, hd, hi, hc]; simp)⟩ (by omega)
                  · have := hno (by rw [hbd, hd, hi, hc]; simp)
                    simp [this]
                · have := hno (by rw [hbd, hd, hi]; simp)
                  cases hc : covB s e f <;> simp [this]
            · by_cases hr : relOf s e f = 4
              · have := hno (by rw [hbd, hd, hr]; simp)
                simp [hr, this]
              · simp [hr]
                refine ⟨_, covered_spec _ _ _ s hS e f hel hfl, ?_⟩
                cases hi : immB s e f
                · cases hc : covB s e f <;>
                  · simp [wrap_id ((f : Int) + 1) (by omega) (by omega)]
                    repeat (rw [exE_eq]; simp [wrap_id ((f : Int) + 1) (by omega) (by omega)])
                    exact Round.mk (f + 1) (weak_mk some (by simp) (by simp) rfl) ⟨hfl, go (by rw [hbd, hd, hi]; simp [hr])⟩ (by omega)
                · by_cases hq : a = b
                  · have := hno (by rw [hbd, hd, hi]; simp [hq])
                    cases hc : covB s e f <;>
                    · simp [hfl, hel, ha, hb, hq, this]
                      repeat (rw [exE_eq]; simp [hfl, hel, ha, hb, hq, this])
                  · have hq' : ¬ (a : Int) = b := by omega
                    cases hc : covB s e f <;>
                    · simp [hfl, hel, ha, hb, hq, wrap_id ((f : Int) + 1) (by omega) (by omega)]
                      repeat (rw [exE_eq]; simp [hfl, hel, ha, hb, hq, wrap_id ((f : Int) + 1) (by omega) (by omega)])
                      exact Round.mk (f + 1) (weak_mk some (by simp) (by simp) rfl) ⟨hfl, go (by rw [hbd, hd, hi]; simp [hr, hq])⟩ (by omega)
          · obtain rfl : f = s.labels.length := by omega
            simp [wrap_id ((e : Int) + 1) (by omega) (by omega)]
            refine Round.mk (e + 1) (weak_mk some (by simp) (by simp) rfl) ⟨hel, fun e' he' f hf => ?_⟩ (by omega)
            by_cases e2 : e' = e
            · subst e2; exact hallf f hf
            · exact hall e' (by omega) f hf
        · obtain rfl : e = s.labels.length := by omega
          have := tsAll_yes hall
          simp [this]
theorem l16Labels_spec (b0 : Bool) (x : AlphaV) (a0 a1 a2 : Bool) (s : StrucV) (hl : s.labels.length ≤ 16) : ACalls1 Tryd.prog 60 [alphaSl b0 x, strucSl a0 a1 a2 s] (bv (s.labels.all fun y => decide (y < x.letters))) := by
  refine walk (fun t => t == 2 || t == 3) mixed Go.Proofs.Tryd.func60 rfl rfl rfl (by kernel_rfl) rfl (by simp) (by kernel_rfl) ?_
  simp
  refine awp_loop2 [2, 3] [] (fun k : Nat => [(5, iv k)]) (fun _ => []) (fun k => k ≤ s.labels.length ∧ ∀ j, j < k → nth s.labels j < x.letters) (fun k => s.labels.length - k) 0 (weak_mk some (by simp) (by simp) rfl) ⟨by simp, fun j hj => by omega⟩ ?_
  rintro k ⟨hk, hall⟩
  by_cases hkl : k < s.labels.length
  · by_cases hb : nth s.labels k < x.letters
    · simp [hkl, show ¬ x.letters ≤ nth s.labels k by omega, wrap_id ((k : Int) + 1) (by omega) (by omega)]
      repeat (rw [exE_eq]; simp [hkl, show ¬ x.letters ≤ nth s.labels k by omega, wrap_id ((k : Int) + 1) (by omega) (by omega)])
      refine Round.mk (k + 1) (weak_mk some (by simp) (by simp) rfl) ⟨hkl, fun j hj => ?_⟩ (by omega)
      by_cases e : j = k
      · subst e; exact hb
      · exact hall j (by omega)
    · have : (s.labels.all fun y => decide (y < x.letters)) = false := by
        rw [← Bool.not_eq_true, all_nth]
        intro h
        have := h k hkl
        simp only [decide_eq_true_eq] at this
        exact hb this
      simp [hkl, show x.letters ≤ nth s.labels k by omega, this]
      repeat (rw [exE_eq]; simp [hkl, show x.letters ≤ nth s.labels k by omega, this])
  · obtain rfl : k = s.labels.length := by omega
    have : (s.labels.all fun y => decide (y < x.letters)) = true := all_nth.2 fun i hi => by simpa using hall i hi
    simp [this]
theorem specIsTraceStructure_spec (b0 : Bool) (x : AlphaV) (hx : AlphabetOk x) (a0 a1 a2 : Bool) (s : StrucV) (hs : StructureOk s) : ACalls1 Tryd.prog 32 [alphaSl b0 x, strucSl a0 a1 a2 s] (.tup [bv (isTraceStructureV x s).1, iv (isTraceStructureV x s).2]) := by
  refine walk (fun t => t == 2 || t == 3) mixed Go.Proofs.Tryd.func32 rfl rfl rfl (by kernel_rfl) rfl (by simp) (by kernel_rfl) ?_
  simp
  refine ⟨_, l02Is_spec b0 x hx.1 hx.2.1, ?_⟩
  unfold isTraceStructureV
  cases hA : isAlphaV x
  · simp
  · have hok := alOk_of hA
    have hl8 := hok.len
    have hll := hok.let_
    simp
    refine ⟨_, l16Is_spec a0 a1 a2 s, ?_⟩
    cases hS : isStructureV s
    · simp
    · obtain ⟨h1, h2, h3⟩ := struc_len hS
      simp
      refine ⟨_, l16Labels_spec b0 x a0 a1 a2 s h1, ?_⟩
      have hLe : (s.labels.all fun y => decide (y < x.letters)) = labOk x s := by
        rw [Bool.eq_iff_iff, labOk, all_nth, all_nth]
        constructor
        · intro h i hi
          have k1 := h i hi
          have k2 := (struc_M hS hi).2.2.2.2.1
          simp only [decide_eq_true_eq, Bool.and_eq_true] at k1 ⊢
          omega
        · intro h i hi
          have k1 := h i hi
          simp only [decide_eq_true_eq, Bool.and_eq_true] at k1 ⊢
          omega
      rw [hLe]
      cases hL : labOk x s
      · simp
      · simp
        refine awp_loop2 [2, 3] [] (fun e : Nat => [(6, iv e)]) (fun _ => []) (fun e => e ≤ s.labels.length ∧ ∀ e', e' < e → ∀ f, f < s.labels.length → tsBad x s e' f = false) (fun e => s.labels.length - e) 0 (weak_mk some (by simp) (by simp) rfl) ⟨by simp, fun j hj => by omega⟩ ?_
        rintro e ⟨he, hall⟩
        simp
        refine ⟨_, l16Size_spec _ _ _ s, ?_⟩
        by_cases hel : e < s.labels.length
        · simp [hel]
          refine awp_loop2 [2, 3, 6] [] (fun f : Nat => [(7, iv f)]) (fun _ => []) (fun f => f ≤ s.labels.length ∧ ∀ f', f' < f → tsBad x s e f' = false) (fun f => s.labels.length - f) 0 (weak_mk some (by simp) (by simp) rfl) ⟨by simp, fun j hj => by omega⟩ ?_
          rintro f ⟨hf, hallf⟩
          simp
          refine ⟨_, l16Size_spec _ _ _ s, ?_⟩
          by_cases hfl : f < s.labels.length
          · obtain ⟨a, ha, hal⟩ := lab_at hok hL hel
            obtain ⟨b, hb, hbl⟩ := lab_at hok hL hfl
            have hno := fun h => tsAll_no (x := x) hel hfl h
            have go : tsBad x s e f = false → ∀ f', f' < f + 1 → tsBad x s e f' = false := fun h f' hf' => by
              by_cases e2 : f' = f
              · subst e2; exact h
              · exact hallf f' (by omega)
            have hD : dLab x s e f = depB x a b := by simp [dLab, ha, hb]
            have hbd : tsBad x s e f = ((decide (relOf s e f = 4) && depB x a b) || ((covB s e f || immB s e f) && !depB x a b) || (immB s e f && decide ((a : Int) = b))) := by rw [← ha, ← hb, ← hD]; rfl
            simp [hfl, hel, ha, hb]
            repeat (rw [exE_eq]; simp [hfl, hel, ha, hb])
            refine ⟨_, l02DepA_spec b0 x hok a b hal hbl, ?_⟩
            simp
            refine ⟨_, l16Immediate_spec _ _ _ s hS e f hel hfl, ?_⟩
            simp
            refine ⟨_, l16Relation_spec _ _ _ s hS e f hel hfl, ?_⟩
            cases hd : depB x a b
            · by_cases hr : relOf s e f = 4 <;>
              · simp [hr]
                repeat (rw [exE_eq]; simp [hr])
                refine ⟨_, l16Covers_spec _ _ _ s hS e f hel hfl, ?_⟩
                cases hi : immB s e f
                · cases hc : covB s e f
                  · simp [wrap_id ((f : Int) + 1) (by omega) (by omega)]
                    repeat (rw [exE_eq]; simp [wrap_id ((f : Int) + 1) (by omega) (by omega)])
                    exact Round.mk (f + 1) (weak_mk some (by simp) (by simp) rfl) ⟨hfl, go (by rw [hbd, hd, hi, hc]; simp)⟩ (by omega)
                  · have := hno (by rw [hbd, hd, hi, hc]; simp)
                    simp [this]
                    repeat (rw [exE_eq]; simp [this])
                · have := hno (by rw [hbd, hd, hi]; simp)
                  cases hc : covB s e f <;>
                  · simp [this]
                    repeat (rw [exE_eq]; simp [this])
            · by_cases hr : relOf s e f = 4
              · have := hno (by rw [hbd, hd, hr]; simp)
                simp [hr, this]
                repeat (rw [exE_eq]; simp [hr, this])
              · simp [hr]
                repeat (rw [exE_eq]; simp [hr])
                refine ⟨_, l16Covers_spec _ _ _ s hS e f hel hfl, ?_⟩
                cases hi : immB s e f
                · cases hc : covB s e f <;>
                  · simp [wrap_id ((f : Int) + 1) (by omega) (by omega)]
                    repeat (rw [exE_eq]; simp [wrap_id ((f : Int) + 1) (by omega) (by omega)])
                    exact Round.mk (f + 1) (weak_mk some (by simp) (by simp) rfl) ⟨hfl, go (by rw [hbd, hd, hi]; simp [hr])⟩ (by omega)
                · by_cases hq : a = b
                  · have := hno (by rw [hbd, hd, hi]; simp [hq])
                    cases hc : covB s e f <;>
                    · simp [hfl, hel, ha, hb, hq, this]
                      repeat (rw [exE_eq]; simp [hfl, hel, ha, hb, hq, this])
                  · have hq' : ¬ (a : Int) = b := by omega
                    cases hc : covB s e f <;>
                    · simp [hfl, hel, ha, hb, hq, wrap_id ((f : Int) + 1) (by omega) (by omega)]
                      repeat (rw [exE_eq]; simp [hfl, hel, ha, hb, hq, wrap_id ((f : Int) + 1) (by omega) (by omega)])
                      exact Round.mk (f + 1) (weak_mk some (by simp) (by simp) rfl) ⟨hfl, go (by rw [hbd, hd, hi]; simp [hr, hq])⟩ (by omega)
          · obtain rfl : f = s.labels.length := by omega
            simp [wrap_id ((e : Int) + 1) (by omega) (by omega)]
            refine Round.mk (e + 1) (weak_mk some (by simp) (by simp) rfl) ⟨hel, fun e' he' f hf => ?_⟩ (by omega)
            by_cases e2 : e' = e
            · subst e2; exact hallf f hf
            · exact hall e' (by omega) f hf
        · obtain rfl : e = s.labels.length := by omega
          have := tsAll_yes hall
          simp [this]
end Go.AM
