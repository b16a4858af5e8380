/-
  ContactOf, DeadMarkings: both sides.
-/
import Derived.Test.YtnimmbjbinpajaaDoorFnMgI
set_option linter.unusedVariables false
set_option linter.unusedSimpArgs false
set_option maxRecDepth 100000
set_option maxHeartbeats 1600000
namespace Go.AM
open Go.Proofs
/-- The places with which a transition has contact. -/
def contM (x : NetV) (m : Int) (a : Nat) : Int := if ibits .andNot .i64 (nth x.pre a) m = 0 then ibits .and .i64 (ibits .andNot .i64 m (nth x.pre a)) (nth x.post a) else 0
theorem markingsOf_zero {x : NetV} (h : (markingsOfV x).2 = 0) : isNet x.p x.pre x.post x.s = true ∧ (reachV x).length ≤ 256 ∧ markingsOfV x = (sortI (keys (reachV x)), 0) := by
  unfold markingsOfV at h
  by_cases h1 : isNet x.p x.pre x.post x.s = true
  · rw [if_pos h1] at h
    by_cases h2 : (reachV x).length ≤ 256
    · exact ⟨h1, h2, by unfold markingsOfV; rw [if_pos h1, if_pos h2]⟩
    · rw [if_neg h2] at h; simp at h
  · rw [if_neg h1] at h; simp at h
theorem markingsOf_code {x : NetV} : (markingsOfV x).2 = 0 ∨ (markingsOfV x).2 = 1 ∨ (markingsOfV x).2 = 3 := by
  unfold markingsOfV
  split
  · split <;> simp
  · simp
theorem marks_ok {x : NetV} (h : isNet x.p x.pre x.post x.s = true) : ∀ y ∈ sortI (keys (reachV x)), M y ∧ y ≤ full x.p := fun y hy => by
  obtain ⟨r, hr⟩ := reach_ok h
  rw [sortI_mem] at hy
  obtain ⟨p, hp, rfl⟩ := List.mem_map.1 hy
  exact hr.ms p hp
/-- The first marking with contact, and its transition. -/
def contA (x : NetV) (m : Int) : Option Nat := (List.range x.pre.length).find? fun a => contM x m a != 0
def contF (x : NetV) : List Int → Option (Int × Nat)
  | [] => none
  | m :: l => match contA x m with
    | some a => some (m, a)
    | none => contF x l
def contactOfV (x : NetV) : Int × Int × Int :=
  if (markingsOfV x).2 = 0 then (match contF x (markingsOfV x).1 with | some p => (p.1, (p.2 : Int), 0) | none => (0, 0, 4)) else (0, 0, (markingsOfV x).2)
theorem contA_some {x : NetV} {m : Int} {a : Nat} (ha : a < x.pre.length) (h : contM x m a ≠ 0) (hp : ∀ b, b < a → contM x m b = 0) : contA x m = some a := by
  unfold contA
  rw [List.find?_range_eq_some]
  exact ⟨by simpa using h, List.mem_range.2 ha, fun b hb => by simpa using hp b hb⟩
theorem contA_none {x : NetV} {m : Int} (hp : ∀ b, b < x.pre.length → contM x m b = 0) : contA x m = none := by
  unfold contA
  rw [List.find?_eq_none]
  intro b hb
  simpa using hp b (List.mem_range.1 hb)
theorem contF_skip {x : NetV} {l : List Int} {k : Nat} (hk : k < l.length) (h : contA x (nth l k) = none) : contF x (l.drop k) = contF x (l.drop (k + 1)) := by
  rw [drop_nth hk, contF, h]
theorem contF_hit {x : NetV} {l : List Int} {k a : Nat} (hk : k < l.length) (h : contA x (nth l k) = some a) : contF x (l.drop k) = some (nth l k, a) := by
  rw [drop_nth hk, contF, h]
theorem hasContact_spec (n1 n2 : Bool) (x : NetV) (m : Int) (a : Nat) (h1 : a < x.pre.length) (h2 : a < x.post.length) : ACalls1 Tryd.prog 71 [netSl n1 n2 x, iv m, iv a] (bv (contM x m a != 0)) := by
  refine walk (fun t => t == 3) mixed Go.Proofs.Tryd.func71 rfl rfl rfl (by kernel_rfl) rfl (by simp) (by kernel_rfl) ?_
  unfold contM
  by_cases h : ibits .andNot .i64 (nth x.pre a) m = 0
  · simp [h1, h2, h]
    repeat (rw [exE_eq]; simp [h1, h2, h])
  · simp [h1, h2, h]
    repeat (rw [exE_eq]; simp [h1, h2, h])
theorem l17Contact_spec (n1 n2 : Bool) (x : NetV) (m : Int) (a : Nat) (h1 : a < x.pre.length) (h2 : a < x.post.length) : ACalls1 Tryd.prog 78 [netSl n1 n2 x, iv m, iv a] (iv (contM x m a)) := by
  refine walk (fun t => t == 3) mixed Go.Proofs.Tryd.func78 rfl rfl rfl (by kernel_rfl) rfl (by simp) (by kernel_rfl) ?_
  unfold contM
  by_cases h : ibits .andNot .i64 (nth x.pre a) m = 0
  · simp [h1, h2, h]
    repeat (rw [exE_eq]; simp [h1, h2, h])
  · simp [h1, h2, h]
    repeat (rw [exE_eq]; simp [h1, h2, h])
theorem contact_spec (n1 n2 nn : Bool) (x : NetV) (hx : isNet x.p x.pre x.post x.s = true) (l : List Int) (hl : l.length ≤ 1000000) : ACalls1 Tryd.prog 83 [netSl n1 n2 x, .sl 1 nn (ints l)] (.tup [iv (match contF x l with | some p => p.1 | none => 0), iv (match contF x l with | some p => (p.2 : Int) | none => -1)]) := by
  have hn := isNet_len hx
  refine walk (fun t => t == 2) mixed Go.Proofs.Tryd.func83 rfl rfl rfl (by kernel_rfl) rfl (by simp) (by kernel_rfl) ?_
  simp
  refine awp_loop2 [2, 9, 10] [] (fun k : Nat => [(11, iv k)]) (fun _ => []) (fun k => k ≤ l.length ∧ contF x l = contF x (l.drop k)) (fun k => l.length - k) 0 (weak_mk some (by simp) (by simp) rfl) ⟨by simp, by simp⟩ ?_
  rintro k ⟨hk, he⟩
  by_cases hkl : k < l.length
  · simp [hkl]
    refine ⟨_, length_spec _ _ (by unfold Fits; omega), ?_⟩
    simp
    refine awp_loop2 [2, 7, 9, 10, 11, 17] [] (fun a : Nat => [(18, iv a)]) (fun _ => []) (fun a => a ≤ x.pre.length ∧ ∀ b, b < a → contM x (nth l k) b = 0) (fun a => x.pre.length - a) 0 (weak_mk some (by simp) (by simp) rfl) ⟨by simp, by simp⟩ ?_
    rintro a ⟨ha, hp⟩
    by_cases hal : a < x.pre.length
    · simp [hal]
      refine ⟨_, hasContact_spec _ _ x (nth l k) a hal (by omega), ?_⟩
      by_cases hc : contM x (nth l k) a = 0
      · simp [hc, wrap_id ((a : Int) + 1) (by omega) (by omega)]
        refine Round.mk (a + 1) (weak_mk some (by simp) (by simp) rfl) ⟨hal, fun b hb => ?_⟩ (by omega)
        by_cases e : b = a
        · subst e; exact hc
        · exact hp b (by omega)
      · rw [he, contF_hit hkl (contA_some hal hc hp)]
        simp [hc]
    · obtain rfl : a = x.pre.length := by omega
      simp [wrap_id ((k : Int) + 1) (by omega) (by omega)]
      exact Round.mk (k + 1) (weak_mk some (by simp) (by simp) rfl) ⟨hkl, by rw [he, contF_skip hkl (contA_none hp)]⟩ (by omega)
  · obtain rfl : k = l.length := by omega
    rw [List.drop_length] at he
    simp [he, contF]
theorem ContactOf_spec (n1 n2 : Bool) (x : NetV) (hx : NetOk x) : ACalls1 Tryd.prog 25 [netSl n1 n2 x] (.tup [iv (contactOfV x).1, iv (contactOfV x).2.1, iv (contactOfV x).2.2]) := by
  refine walk (fun t => t == 1) mixed Go.Proofs.Tryd.func25 rfl rfl rfl (by kernel_rfl) rfl (by simp) (by kernel_rfl) ?_
  simp
  refine ⟨_, MarkingsOf_spec _ _ x hx, ?_⟩
  unfold contactOfV
  by_cases h : (markingsOfV x).2 = 0
  · obtain ⟨h1, h2, h3⟩ := markingsOf_zero h
    have hf := (MarkingsOf_fits x hx).1
    have hlen : (markingsOfV x).1.length ≤ 256 := by rw [h3]; simp; exact h2
    simp [h]
    refine ⟨_, contact_spec _ _ _ x h1 _ (by omega), ?_⟩
    cases hc : contF x (markingsOfV x).1 with
    | none => simp
    | some p => simp
  · simp [h]
end Go.AM
