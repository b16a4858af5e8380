/-
  Contracts: histories and relations of events.
-/
import Derived.Test.YthabclhldlikfaaGreatDoorFnU
set_option linter.unusedVariables false
set_option linter.unusedSimpArgs false
set_option maxRecDepth 100000
set_option maxHeartbeats 1600000
namespace Go.AM
open Go.Proofs
theorem struc_len {x : StrucV} (h : isStructureV x = true) : x.labels.length ≤ 16 ∧ x.below.length = x.labels.length ∧ x.clash.length = x.labels.length := by
  have := isStruc_iff.1 h; exact ⟨this.1, this.2.1, this.2.2.1⟩
theorem struc_M {x : StrucV} (h : isStructureV x = true) {e : Nat} (he : e < x.labels.length) : M (nth x.below e) ∧ M (nth x.clash e) ∧ (∀ i, x.labels.length ≤ i → tb (nth x.below e) i = false) ∧ (∀ i, x.labels.length ≤ i → tb (nth x.clash e) i = false) ∧ 0 ≤ nth x.labels e ∧ nth x.labels e ≤ 7 := by
  obtain ⟨h1, _, _, h4, _⟩ := isStruc_iff.1 h
  have := h4 e he
  unfold evOk at this
  simp only [Bool.and_eq_true, decide_eq_true_eq] at this
  obtain ⟨a1, a2⟩ := isM_spec (by omega) this.1.1.1.1
  obtain ⟨b1, b2⟩ := isM_spec (by omega) this.1.1.1.2
  exact ⟨a1, b1, a2, b2, this.1.1.2.1, this.1.1.2.2⟩
/-- What is told of events. -/
def evIn (n : Nat) (l : List Int) : Bool := l.all fun y => decide (0 ≤ y) && decide (y ≤ (n : Int) - 1)
def evCode (x : StrucV) (l : List Int) : Int := if isStructureV x then (if evIn x.labels.length l then 0 else 2) else 1
theorem checkEvents_spec (a0 a1 a2 : Bool) (x : StrucV) (hx : StructureOk x) (nn : Bool) (l : List Int) (hl : Fits l) : ACalls1 Tryz.prog 161 [strucSl a0 a1 a2 x, .sl 1 nn (ints l)] (iv (evCode x l)) := by
  refine walk (fun t => t == 2) mixed Go.Proofs.Tryz.func161 rfl rfl rfl (by kernel_rfl) rfl (by simp) (by kernel_rfl) ?_
  simp
  refine ⟨_, IsStructure_spec _ _ _ x hx, ?_⟩
  unfold evCode
  cases h : isStructureV x
  · simp
  · obtain ⟨h1, h2, h3⟩ := struc_len h
    simp
    refine ⟨_, length_spec _ _ hx.1.1, ?_⟩
    simp [wrap_sub1 x.below.length (by omega)]
    refine ⟨_, allIn_spec _ _ _ _ hl, ?_⟩
    rw [h2]
    cases hb : evIn x.labels.length l
    · unfold evIn at hb
      simp only [hb]
      simp
    · unfold evIn at hb
      simp only [hb]
      simp
theorem evCode_zero {x : StrucV} {l : List Int} (h : evCode x l = 0) : isStructureV x = true ∧ ∀ y ∈ l, ∃ k : Nat, y = k ∧ k < x.labels.length := by
  unfold evCode at h
  split at h
  · rename_i h1
    split at h
    · rename_i h2
      refine ⟨h1, fun y hy => ?_⟩
      have := List.all_eq_true.1 h2 y hy
      simp only [Bool.and_eq_true, decide_eq_true_eq] at this
      exact ⟨y.toNat, by omega, by omega⟩
    · cases h
  · cases h
def histOf (x : StrucV) (e : Nat) : Int := ibits .or .i64 (nth x.below e) (pow1 e)
def historyOfV (x : StrucV) (e : Int) : Int × Int := if evCode x [e] = 0 then (histOf x e.toNat, 0) else (0, evCode x [e])
theorem l16History_spec (a0 a1 a2 : Bool) (x : StrucV) (e : Nat) (h : e < x.below.length) (h16 : x.below.length ≤ 16) : ACalls1 Tryz.prog 253 [strucSl a0 a1 a2 x, iv e] (iv (histOf x e)) := by
  refine walk (fun t => t == 2) mixed Go.Proofs.Tryz.func253 rfl rfl rfl (by kernel_rfl) rfl (by simp) (by kernel_rfl) ?_
  simp [h]
  refine ⟨_, l01One_spec _ (by unfold I64; omega), ?_⟩
  simp [histOf]
theorem history_spec (a0 a1 a2 : Bool) (x : StrucV) (e : Nat) (h : e < x.below.length) (h16 : x.below.length ≤ 16) : ACalls1 Tryz.prog 162 [strucSl a0 a1 a2 x, iv e] (iv (histOf x e)) := by
  refine walk (fun t => t == 2) mixed Go.Proofs.Tryz.func162 rfl rfl rfl (by kernel_rfl) rfl (by simp) (by kernel_rfl) ?_
  simp [h]
  refine ⟨_, one_spec _ (by omega), ?_⟩
  simp [histOf]
theorem HistoryOf_spec (a0 a1 a2 : Bool) (x : StrucV) (hx : StructureOk x) (e : Int) (he : I64 e) : ACalls1 Tryz.prog 86 [strucSl a0 a1 a2 x, iv e] (.tup [iv (historyOfV x e).1, iv (historyOfV x e).2]) := by
  refine walk (fun t => t == 2) mixed Go.Proofs.Tryz.func86 rfl rfl rfl (by kernel_rfl) rfl (by simp) (by kernel_rfl) ?_
  simp
  refine ⟨_, checkEvents_spec _ _ _ x hx true [e] (by simp [Fits]), ?_⟩
  unfold historyOfV
  by_cases h : evCode x [e] = 0
  · obtain ⟨hs, hy⟩ := evCode_zero h
    obtain ⟨k, rfl, hk⟩ := hy e (by simp)
    obtain ⟨h1, h2, h3⟩ := struc_len hs
    simp [h]
    refine ⟨_, history_spec _ _ _ x k (by omega) (by omega), ?_⟩
    simp
  · simp [h]
/-- How two events are related. -/
def relOf (x : StrucV) (e f : Nat) : Int := if e = f then 0 else if tb (nth x.below f) e then 1 else if tb (nth x.below e) f then 2 else if tb (nth x.clash e) f then 3 else 4
def relationOfV (x : StrucV) (e f : Int) : Int × Int := if evCode x [e, f] = 0 then (relOf x e.toNat f.toNat, 0) else (0, evCode x [e, f])
theorem relation_spec (a0 a1 a2 : Bool) (x : StrucV) (hs : isStructureV x = true) (e f : Nat) (he : e < x.labels.length) (hf : f < x.labels.length) : ACalls1 Tryz.prog 112 [strucSl a0 a1 a2 x, iv e, iv f] (iv (relOf x e f)) := by
  obtain ⟨h1, h2, h3⟩ := struc_len hs
  obtain ⟨e1, e2, _⟩ := struc_M hs he
  obtain ⟨f1, f2, _⟩ := struc_M hs hf
  refine walk (fun t => t == 3) mixed Go.Proofs.Tryz.func112 rfl rfl rfl (by kernel_rfl) rfl (by simp) (by kernel_rfl) ?_
  unfold relOf
  by_cases hef : e = f
  · subst hef; simp
  · simp [hef, h2, h3, he, hf]
    refine ⟨_, has_spec _ f1 e (by omega), ?_⟩
    cases hb1 : tb (nth x.below f) e
    · simp [h2, h3, he, hf]
      refine ⟨_, has_spec _ e1 f (by omega), ?_⟩
      cases hb2 : tb (nth x.below e) f
      · simp [h2, h3, he, hf]
        refine ⟨_, has_spec _ e2 f (by omega), ?_⟩
        cases hb3 : tb (nth x.clash e) f <;> simp
      · simp
    · simp
end Go.AM
