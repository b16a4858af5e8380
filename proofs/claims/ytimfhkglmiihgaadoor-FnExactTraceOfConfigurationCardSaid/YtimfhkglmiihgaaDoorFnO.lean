/-
  IsTraceStructure.
-/
import Derived.Test.YtimfhkglmiihgaaDoorFnN
set_option linter.unusedVariables false
set_option linter.unusedSimpArgs false
set_option maxRecDepth 100000
set_option maxHeartbeats 1600000
namespace Go.AM
open Go.Proofs
def cvG (s : StrucV) (e f g : Nat) : Bool := tb (nth s.below f) g && tb (nth s.below g) e
def covB (s : StrucV) (e f : Nat) : Bool := tb (nth s.below f) e && (List.range s.labels.length).all fun g => !(tb (nth s.below f) g && tb (nth s.below g) e)
theorem l02DepA_spec (a0 : Bool) (x : AlphaV) (hx : AlOk x) (a b : Nat) (ha : a < x.depends.length) (hb : b < x.depends.length) : ACalls1 Tryd.prog 185 [alphaSl a0 x, iv a, iv b] (bv (depB x a b)) := by
  have h8 := hx.len
  refine walk (fun t => t == 3) mixed Go.Proofs.Tryd.func185 rfl rfl rfl (by kernel_rfl) rfl (by simp) (by kernel_rfl) ?_
  simp [ha]
  refine ⟨_, l01Bit_spec _ (alOk_M hx ha).1 b (by omega), ?_⟩
  simp [depB]
def dLab (x : AlphaV) (s : StrucV) (e f : Nat) : Bool := depB x (nth s.labels e).toNat (nth s.labels f).toNat
def tsBad (x : AlphaV) (s : StrucV) (e f : Nat) : Bool :=
  (decide (relOf s e f = 4) && dLab x s e f) || ((covB s e f || immB s e f) && !dLab x s e f) || (immB s e f && decide (nth s.labels e = nth s.labels f))
def labOk (x : AlphaV) (s : StrucV) : Bool := s.labels.all fun y => decide (0 ≤ y) && decide (y ≤ x.letters - 1)
def tsAll (x : AlphaV) (s : StrucV) : Bool := (List.range s.labels.length).all fun e => (List.range s.labels.length).all fun f => !tsBad x s e f
def isTraceStructureV (x : AlphaV) (s : StrucV) : Bool × Int := if isAlphaV x = true then (if isStructureV s = true then (if labOk x s = true then (tsAll x s, 0) else (false, 0)) else (false, 1)) else (false, 1)
theorem tsAll_no {x : AlphaV} {s : StrucV} {e f : Nat} (he : e < s.labels.length) (hf : f < s.labels.length) (h : tsBad x s e f = true) : tsAll x s = false := by
  unfold tsAll
  rw [← Bool.not_eq_true, List.all_eq_true]
  intro h'
  have := h' e (List.mem_range.2 he)
  rw [List.all_eq_true] at this
  have := this f (List.mem_range.2 hf)
  rw [h] at this; cases this
theorem tsAll_yes {x : AlphaV} {s : StrucV} (h : ∀ e, e < s.labels.length → ∀ f, f < s.labels.length → tsBad x s e f = false) : tsAll x s = true := by
  unfold tsAll
  rw [List.all_eq_true]
  intro e he
  rw [List.all_eq_true]
  intro f hf
  rw [h e (List.mem_range.1 he) f (List.mem_range.1 hf)]; rfl
theorem lab_at {x : AlphaV} {s : StrucV} (hx : AlOk x) (h : labOk x s = true) {e : Nat} (he : e < s.labels.length) : ∃ a : Nat, nth s.labels e = a ∧ a < x.depends.length := by
  have := all_nth.1 h e he
  simp only [Bool.and_eq_true, decide_eq_true_eq] at this
  have hl := hx.let_
  exact ⟨(nth s.labels e).toNat, by omega, by omega⟩
theorem l16Labels_spec (b0 : Bool) (x : AlphaV) (a0 a1 a2 : Bool) (s : StrucV) (hl : s.labels.length ≤ 16) : ACalls1 Tryd.prog 78 [alphaSl b0 x, strucSl a0 a1 a2 s] (bv (s.labels.all fun y => decide (y < x.letters))) := by
  refine walk (fun t => t == 2 || t == 3) mixed Go.Proofs.Tryd.func78 rfl rfl rfl (by kernel_rfl) rfl (by simp) (by kernel_rfl) ?_
  simp
  refine awp_loop2 [2, 3] [] (fun k : Nat => [(5, iv k)]) (fun _ => []) (fun k => k ≤ s.labels.length ∧ ∀ j, j < k → nth s.labels j < x.letters) (fun k => s.labels.length - k) 0 (weak_mk some (by simp) (by simp) rfl) ⟨by simp, fun j hj => by omega⟩ ?_
  rintro k ⟨hk, hall⟩
  by_cases hkl : k < s.labels.length
  · by_cases hb : nth s.labels k < x.letters
    · simp [hkl, show ¬ x.letters ≤ nth s.labels k by omega, wrap_id ((k : Int) + 1) (by omega) (by omega)]
      repeat (rw [exE_eq]; simp [hkl, show ¬ x.letters ≤ nth s.labels k by omega, wrap_id ((k : Int) + 1) (by omega) (by omega)])
      refine Round.mk (k + 1) (weak_mk some (by simp) (by simp) rfl) ⟨hkl, fun j hj => ?_⟩ (by omega)
      by_cases e : j = k
      · subst e; exact hb
      · exact hall j (by omega)
    · have : (s.labels.all fun y => decide (y < x.letters)) = false := by
        rw [← Bool.not_eq_true, all_nth]
        intro h
        have := h k hkl
        simp only [decide_eq_true_eq] at this
        exact hb this
      simp [hkl, show x.letters ≤ nth s.labels k by omega, this]
      repeat (rw [exE_eq]; simp [hkl, show x.letters ≤ nth s.labels k by omega, this])
  · obtain rfl : k = s.labels.length := by omega
    have : (s.labels.all fun y => decide (y < x.letters)) = true := all_nth.2 fun i hi => by simpa using hall i hi
    simp [this]
end Go.AM
