/-
  ContactOf, DeadMarkings: both sides.
-/
import Derived.Test.YtimfhkglmiihgaaDoorFnMb
set_option linter.unusedVariables false
set_option linter.unusedSimpArgs false
set_option maxRecDepth 100000
set_option maxHeartbeats 1600000
namespace Go.AM
open Go.Proofs
/-- The places with which a transition has contact. -/
def contM (x : NetV) (m : Int) (a : Nat) : Int := if ibits .andNot .i64 (nth x.pre a) m = 0 then ibits .and .i64 (ibits .andNot .i64 m (nth x.pre a)) (nth x.post a) else 0
theorem markingsOf_zero {x : NetV} (h : (markingsOfV x).2 = 0) : isNet x.p x.pre x.post x.s = true ∧ (reachV x).length ≤ 256 ∧ markingsOfV x = (sortI (keys (reachV x)), 0) := by
  unfold markingsOfV at h
  by_cases h1 : isNet x.p x.pre x.post x.s = true
  · rw [if_pos h1] at h
    by_cases h2 : (reachV x).length ≤ 256
    · exact ⟨h1, h2, by unfold markingsOfV; rw [if_pos h1, if_pos h2]⟩
    · rw [if_neg h2] at h; simp at h
  · rw [if_neg h1] at h; simp at h
theorem markingsOf_code {x : NetV} : (markingsOfV x).2 = 0 ∨ (markingsOfV x).2 = 1 ∨ (markingsOfV x).2 = 3 := by
  unfold markingsOfV
  split
  · split <;> simp
  · simp
theorem marks_ok {x : NetV} (h : isNet x.p x.pre x.post x.s = true) : ∀ y ∈ sortI (keys (reachV x)), M y ∧ y ≤ full x.p := fun y hy => by
  obtain ⟨r, hr⟩ := reach_ok h
  rw [sortI_mem] at hy
  obtain ⟨p, hp, rfl⟩ := List.mem_map.1 hy
  exact hr.ms p hp
/-- The first marking with contact, and its transition. -/
def contA (x : NetV) (m : Int) : Option Nat := (List.range x.pre.length).find? fun a => contM x m a != 0
def contF (x : NetV) : List Int → Option (Int × Nat)
  | [] => none
  | m :: l => match contA x m with
    | some a => some (m, a)
    | none => contF x l
def contactOfV (x : NetV) : Int × Int × Int :=
  if (markingsOfV x).2 = 0 then (match contF x (markingsOfV x).1 with | some p => (p.1, (p.2 : Int), 0) | none => (0, 0, 4)) else (0, 0, (markingsOfV x).2)
theorem contA_some {x : NetV} {m : Int} {a : Nat} (ha : a < x.pre.length) (h : contM x m a ≠ 0) (hp : ∀ b, b < a → contM x m b = 0) : contA x m = some a := by
  unfold contA
  rw [List.find?_range_eq_some]
  exact ⟨by simpa using h, List.mem_range.2 ha, fun b hb => by simpa using hp b hb⟩
theorem contA_none {x : NetV} {m : Int} (hp : ∀ b, b < x.pre.length → contM x m b = 0) : contA x m = none := by
  unfold contA
  rw [List.find?_eq_none]
  intro b hb
  simpa using hp b (List.mem_range.1 hb)
theorem contF_skip {x : NetV} {l : List Int} {k : Nat} (hk : k < l.length) (h : contA x (nth l k) = none) : contF x (l.drop k) = contF x (l.drop (k + 1)) := by
  rw [drop_nth hk, contF, h]
theorem contF_hit {x : NetV} {l : List Int} {k a : Nat} (hk : k < l.length) (h : contA x (nth l k) = some a) : contF x (l.drop k) = some (nth l k, a) := by
  rw [drop_nth hk, contF, h]
theorem hasContact_spec (n1 n2 : Bool) (x : NetV) (m : Int) (a : Nat) (h1 : a < x.pre.length) (h2 : a < x.post.length) : ACalls1 Tryd.prog 126 [netSl n1 n2 x, iv m, iv a] (bv (contM x m a != 0)) := by
  refine walk (fun t => t == 3) mixed Go.Proofs.Tryd.func126 rfl rfl rfl (by kernel_rfl) rfl (by simp) (by kernel_rfl) ?_
  unfold contM
  by_cases h : ibits .andNot .i64 (nth x.pre a) m = 0
  · simp [h1, h2, h]
    repeat (rw [exE_eq]; simp [h1, h2, h])
  · simp [h1, h2, h]
    repeat (rw [exE_eq]; simp [h1, h2, h])
theorem l17Contact_spec (n1 n2 : Bool) (x : NetV) (m : Int) (a : Nat) (h1 : a < x.pre.length) (h2 : a < x.post.length) : ACalls1 Tryd.prog 120 [netSl n1 n2 x, iv m, iv a] (iv (contM x m a)) := by
  refine walk (fun t => t == 3) mixed Go.Proofs.Tryd.func120 rfl rfl rfl (by kernel_rfl) rfl (by simp) (by kernel_rfl) ?_
  unfold contM
  by_cases h : ibits .andNot .i64 (nth x.pre a) m = 0
  · simp [h1, h2, h]
    repeat (rw [exE_eq]; simp [h1, h2, h])
  · simp [h1, h2, h]
    repeat (rw [exE_eq]; simp [h1, h2, h])
end Go.AM
