/-
  Every machine has its canonical machine; what minimal automata are.
-/
import Derived.Test.YtnimmbjbinpajaaDoorFnNi
import Derived.Test.YtnimmbjbinpajaaDoorFnR
set_option linter.unusedVariables false
set_option linter.unusedSimpArgs false
set_option linter.unusedSectionVars false
set_option maxRecDepth 100000
set_option maxHeartbeats 1600000
namespace Go.AM
open Go.Proofs
section
variable {c : List Int} {m : MchV} {R : Nat → Prop} (hc : ClsOk c m R)
include hc
theorem mIter_ends {start : Int} (h0 : 0 ≤ start) (hst : R start.toNat) : ∃ N, (mIter c m start N).1.length = N := by
  apply Classical.byContradiction
  intro hne
  have : ∀ N, N < (mIter c m start N).1.length := by
    intro N
    induction N with
    | zero => exact (mIter_ok hc h0 hst 0).2.2.1
    | succ N ih =>
      have h1 : mIter c m start (N + 1) = if N < (mIter c m start N).1.length then ((mRow c m (nth (mIter c m start N).1 N).toNat (mIter c m start N).1 m.letters).1, (mIter c m start N).2 ++ [(mRow c m (nth (mIter c m start N).1 N).toNat (mIter c m start N).1 m.letters).2]) else mIter c m start N := rfl
      rw [if_pos ih] at h1
      obtain ⟨hM1, _⟩ := mIter_ok hc h0 hst N
      have hmem : nth (mIter c m start N).1 N ∈ (mIter c m start N).1 := by rw [nth_at ih]; exact List.getElem_mem ih
      obtain ⟨_, ⟨t, h2⟩, _⟩ := mRow_ok hc (hM1.r _ hmem).2 hM1 m.letters (Nat.le_refl _)
      have h3 : N < (mIter c m start (N + 1)).1.length := by rw [h1]; simp only; rw [h2]; simp; omega
      rcases Nat.lt_or_ge (N + 1) (mIter c m start (N + 1)).1.length with h | h
      · exact h
      · exact absurd ⟨N + 1, by omega⟩ hne
  have h1 := this (m.next.length + 1)
  have h2 := mItOk_len hc (mIter_ok hc h0 hst (m.next.length + 1)).1
  omega
end
open Classical in
noncomputable def clsF (m : MchV) (s : Nat) : Int := if Void (langV m s) then -1 else (ixOf ((List.range m.next.length).map fun (t : Nat) => langV m t) (langV m s) : Int)
/-- Classes by languages. -/
noncomputable def clsL (m : MchV) : List Int := (List.range m.next.length).map (clsF m)
theorem clsL_at (m : MchV) {s : Nat} (hs : s < m.next.length) : nth (clsL m) s = clsF m s := by
  unfold clsL
  rw [nth_at (by simpa using hs), List.getElem_map, List.getElem_range]
theorem clsL_ok {m : MchV} (hm : MchOk m) : ClsOk (clsL m) m (fun s => s < m.next.length) := by
  refine ⟨fun s h => h, fun s a h ha h0 => by have := hm.rr s h a ha; omega, fun s hs => ?_, fun s t hs ht h => ?_⟩
  · rw [clsL_at m hs]
    unfold clsF
    split
    · rename_i h; exact ⟨fun _ => h, fun _ => by omega⟩
    · rename_i h; exact ⟨fun h2 => by omega, fun h2 => absurd h2 h⟩
  · rw [clsL_at m hs] at h ⊢
    rw [clsL_at m ht]
    unfold clsF at h ⊢
    by_cases h1 : Void (langV m s)
    · rw [if_pos h1] at h; omega
    · rw [if_neg h1]
      by_cases h2 : Void (langV m t)
      · rw [if_pos h2]
        exact ⟨fun h3 => by omega, fun h3 => absurd (by rw [← h3]; exact h2) h1⟩
      · rw [if_neg h2]
        have hx : langV m s ∈ (List.range m.next.length).map fun (t : Nat) => langV m t := List.mem_map.2 ⟨s, List.mem_range.2 hs, rfl⟩
        have hy : langV m t ∈ (List.range m.next.length).map fun (t : Nat) => langV m t := List.mem_map.2 ⟨t, List.mem_range.2 ht, rfl⟩
        constructor
        · intro e
          have e2 : ixOf ((List.range m.next.length).map fun (t : Nat) => langV m t) (langV m t) = ixOf ((List.range m.next.length).map fun (t : Nat) => langV m t) (langV m s) := by omega
          have g1 := ixOf_at (ixOf_lt hx)
          have g2 := ixOf_at (ixOf_lt hy)
          rw [← g2, ← g1]
          simp only [e2]
        · intro e; rw [e]
/-- Every machine has its canonical machine. -/
theorem canon_exists {m : MchV} (hm : MchOk m) {s : Nat} (hs : s < m.next.length) : ∃ rows fins, IsCanon m.letters (langV m s) rows fins := by
  obtain ⟨N, hN⟩ := mIter_ends (clsL_ok hm) (start := (s : Int)) (by omega) (by simpa using hs)
  exact ⟨_, _, mIter_canon (clsL_ok hm) (start := (s : Int)) (by omega) (by simpa using hs) (N := N) rfl hN⟩
theorem lang_out (m : MchV) : ∀ (w : List Nat) (a : Nat) (u : List Nat) (s : Int), ¬ a < m.letters → langV m s (w ++ a :: u) = false
  | [], a, u, s, h => by
    simp [langV, h]
  | b :: w, a, u, s, h => by
    simp only [List.cons_append, langV]
    split
    · rfl
    · split
      · exact lang_out m w a u _ h
      · rfl
theorem canM_ok {m : MchV} (hm : MchOk m) {s : Nat} (hs : s < m.next.length) : MchOk (canM m.letters (langV m s)) ∧ 0 < (canM m.letters (langV m s)).next.length ∧ langV (canM m.letters (langV m s)) 0 = langV m s := by
  obtain ⟨rows, fins, h⟩ := canon_exists hm hs
  have := canon_lang (fun a w ha => lang_out m [] a w s ha) (fun v a w ha => lang_out m v a w s ha) h
  unfold canM
  rw [canonOf_eq h]
  exact this
theorem finM_M (f : List Bool) : ∀ k, k ≤ 62 → M (finM f k)
  | 0, _ => by unfold finM M; omega
  | k + 1, hk => by
    have ih := finM_M f k (by omega)
    unfold finM
    split
    · exact M_or ih (M_pow1 (by omega))
    · exact ih
/-- What a law's automaton is. -/
def AutomatonOk (m : AutV) : Prop := I64 m.letters ∧ I64 m.start ∧ I64 m.final ∧ RowsOk m.next
theorem total_le {n : Nat} : ∀ (rs : List (List Int)), (∀ r ∈ rs, r.length ≤ n) → total rs ≤ rs.length * n
  | [], _ => by simp [total]
  | r :: rs, h => by
    have h1 := h r (by simp)
    have h2 := total_le rs fun x hx => h x (by simp [hx])
    have e : total (r :: rs) = r.length + total rs := rfl
    rw [e, List.length_cons, Nat.succ_mul]; omega
theorem zero_aut_ok : AutomatonOk ⟨0, 0, 0, []⟩ := by
  unfold AutomatonOk RowsOk I64
  simp [total]
theorem autL_ok {m : MchV} (hm : MchOk m) {s : Nat} (hs : s < m.next.length) (h8 : m.letters ≤ 8) : AutomatonOk (autL m.letters (langV m s)).1 := by
  obtain ⟨h1, h2, h3⟩ := canM_ok hm hs
  have hfl := h1.f
  unfold autL
  split
  · rename_i h16
    have hM := finM_M (canM m.letters (langV m s)).fin (canM m.letters (langV m s)).fin.length (by omega)
    have hcl : (canM m.letters (langV m s)).letters = m.letters := rfl
    have hrow : ∀ r ∈ (canM m.letters (langV m s)).next, r.length = m.letters ∧ ∀ y ∈ r, -1 ≤ y ∧ y < 16 := fun r hr => by
      obtain ⟨i, hi, e⟩ := List.mem_iff_getElem.1 hr
      have hl := h1.rl i hi
      rw [nthR_at hi, e, hcl] at hl
      refine ⟨hl, fun y hy => ?_⟩
      obtain ⟨a, ha, e2⟩ := List.mem_iff_getElem.1 hy
      have := h1.rr i hi a (by rw [hcl]; omega)
      unfold goV at this
      rw [nthR_at hi, e, nth_at ha, e2] at this
      omega
    have ht := total_le (n := 8) (canM m.letters (langV m s)).next fun r hr => by have := (hrow r hr).1; omega
    unfold M at hM
    refine ⟨by unfold I64; simp only; omega, by unfold I64; simp only; omega, by unfold I64; simp only; omega, by simp only; omega, by simp only; omega, fun r hr => ?_⟩
    have := hrow r hr
    refine ⟨?_, fun y hy => ?_⟩
    · show Fits r
      unfold Fits; omega
    · have := this.2 y hy; unfold I64; omega
  · exact zero_aut_ok
theorem eqAutomatonL (a b c d : Bool) (m : AutV) (h : AutomatonOk m) : ACalls1 Tryd.prog 12 [autSl a b m, autSl c d m] (bv true) := by
  refine walk (fun t => t == 2 || t == 3) mixed Go.Proofs.Tryd.func12 rfl rfl rfl (by kernel_rfl) rfl (by simp) (by kernel_rfl) ?_
  simp
  refine ⟨_, eqInt64SSL a b c d m.next h.2.2.2, ?_⟩
  simp
def markedAut (m : AutV) (k : Int) : AutV := ⟨m.letters, m.start, m.final, markRows k m.next⟩
theorem markAutomatonL (a b : Bool) (m : AutV) (k : Int) (h : AutomatonOk m) (h0 : 0 ≤ k) (h1 : k ≤ 1000000000000) : ACalls2 Tryd.prog 19 [autOw a b m, iv k] [autOw a b (markedAut m k), iv k] (iv (k + total m.next)) := by
  refine walkO (fun t => t == 2008) mixed Go.Proofs.Tryd.func19 rfl rfl rfl (by kernel_rfl) (by simp) (by simp) (by simp) (by kernel_rfl) ?_
  simp
  refine ⟨_, _, markInt64SSL a b m.next k h.2.2.2 h0 h1, ?_⟩
  simp [markedAut]
theorem heldAutomatonL (a b : Bool) (m : AutV) (k : Int) (h : AutomatonOk m) (h0 : 0 ≤ k) (h1 : k ≤ 1000000000000) : ACalls1 Tryd.prog 20 [autSl a b (markedAut m k), iv k] (iv (k + total m.next)) := by
  unfold markedAut
  refine walk (fun t => t == 2) mixed Go.Proofs.Tryd.func20 rfl rfl rfl (by kernel_rfl) rfl (by simp) (by kernel_rfl) ?_
  simp
  refine ⟨_, heldInt64SSL a b m.next k h.2.2.2 h0 h1, ?_⟩
  simp
  omega
end Go.AM
