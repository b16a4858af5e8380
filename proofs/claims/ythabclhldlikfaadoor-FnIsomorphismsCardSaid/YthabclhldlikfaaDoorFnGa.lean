/-
  Contracts: lists joined; a list without one of its elements.
-/
import Derived.Test.YthabclhldlikfaaDoorFnM
import Derived.Test.YthabclhldlikfaaDoorFnNt
set_option linter.unusedVariables false
set_option linter.unusedSimpArgs false
set_option maxRecDepth 100000
set_option maxHeartbeats 1600000
namespace Go.AM
open Go.Proofs
/-- Rows, each with the word whether it is surely no nil. -/
def frows (ps : List (Bool × List Int)) : List AV := ps.map fun p => .sl 1 p.1 (ints p.2)
def joinR (ps : List (Bool × List Int)) : List Int := ps.flatMap fun p => p.2
@[simp] theorem frows_length (ps : List (Bool × List Int)) : (frows ps).length = ps.length := by simp [frows]
theorem frows_window (ps : List (Bool × List Int)) (n : Nat) (h : n < ps.length) : ((frows ps).drop n).take 1 = [.sl 1 ps[n].1 (ints ps[n].2)] := by
  rw [frows, ← List.map_drop, ← List.map_take, List.drop_eq_getElem_cons h]; rfl
theorem idx_frows {P : Program} {st : St} {t : TypeId} {nn : Bool} {ps : List (Bool × List Int)} {c : IntKind} {n : Nat} {k : Eff → Prop} (h : oneB P t = true) (hn : n < ps.length) :
    indexAddrOp P st t (.sl 1 nn (frows ps)) (.val (.int c n)) k = k { val := .ip [.sl 1 ps[n].1 (ints ps[n].2)] } := by
  unfold oneB at h
  split at h
  · rename_i e he
    simp only [Bool.and_eq_true, beq_iff_eq] at h
    unfold indexAddrOp
    simp only [he, slOf2, slOf, h.1, h.2, true_and, Nat.mul_one, frows_length, Nat.lt_add_one, Int.toNat_natCast]
    refine propext ⟨?_, ?_⟩
    · rintro ⟨h0, h1, h2⟩
      rw [frows_window ps _ hn] at h2; exact h2
    · intro h2
      refine ⟨by omega, by omega, ?_⟩
      rw [frows_window ps _ hn]; exact h2
  · cases h
theorem joinR_take (ps : List (Bool × List Int)) (k : Nat) (h : k < ps.length) : joinR (ps.take (k + 1)) = joinR (ps.take k) ++ ps[k].2 := by
  unfold joinR; rw [List.take_succ_eq_append_getElem h, List.flatMap_append]; simp
theorem joinR_take_le (ps : List (Bool × List Int)) (k : Nat) : (joinR (ps.take k)).length ≤ (joinR ps).length := by
  have e : joinR ps = joinR (ps.take k) ++ joinR (ps.drop k) := by
    unfold joinR; rw [← List.flatMap_append, List.take_append_drop]
  rw [e, List.length_append]; omega
/-- Numbers as words. -/
theorem nats_take (L : List Nat) (k : Nat) : (nats L).take k = nats (L.take k) := by simp [nats, List.map_take]
theorem nats_drop (L : List Nat) (k : Nat) : (nats L).drop k = nats (L.drop k) := by simp [nats, List.map_drop]
theorem nats_append (L K : List Nat) : nats L ++ nats K = nats (L ++ K) := by simp [nats]
theorem mem_nats {L : List Nat} {a : Nat} : ((a : Int) ∈ nats L) = (a ∈ L) := by
  apply propext
  unfold nats
  rw [List.mem_map]
  constructor
  · rintro ⟨b, hb, e⟩
    have : b = a := by omega
    subst this; exact hb
  · intro h; exact ⟨a, h, rfl⟩
theorem erase_idx {L : List Nat} {a : Nat} (h : a ∈ L) : L.take (L.idxOf a) ++ L.drop (L.idxOf a + 1) = L.erase a := by
  rw [← List.eraseIdx_eq_take_drop_succ, List.erase_eq_eraseIdx_of_idxOf rfl]
theorem idxOf_nats {L : List Nat} {a : Nat} (h : a ∈ L) : idxI (nats L) a = (L.idxOf a : Nat) := by
  have hl := List.idxOf_lt_length_of_mem h
  refine idxI_some (by simpa using hl) (by rw [nats_nth hl, natAt_at hl, List.getElem_idxOf hl]) fun i hi => ?_
  have hil : i < L.length := by omega
  rw [nats_nth hil, natAt_at hil]
  intro e
  have e1 : L[i] = a := by omega
  have := List.not_of_lt_findIdx (p := (· == a)) (xs := L) (i := i) hi
  simp [e1] at this
theorem l03Without_spec (nn : Bool) (L : List Nat) (hl : L.length < 1099511627776) (a : Nat) (ha : a ∈ L) : ACalls1 Tryd.prog 72 [.sl 1 nn (ints (nats L)), iv (L.idxOf a : Nat)] (.own 1 false (ints (nats (L.erase a)))) := by
  have hi := List.idxOf_lt_length_of_mem ha
  rw [← erase_idx ha, ← nats_append, ← nats_take, ← nats_drop]
  refine walk (fun t => t == 1005) mixed Go.Proofs.Tryd.func72 rfl rfl rfl (by kernel_rfl) rfl (by simp) (by kernel_rfl) ?_
  simp
  repeat (refine And.intro (by omega) ?_)
  simp only [ints_take]
  refine ⟨_, l01Own_spec _ _ (by simp [Fits]; omega), ?_⟩
  simp
  rw [wrap_id _ (by omega) (by omega)]
  repeat (refine And.intro (by omega) ?_)
  have e1 : ((L.idxOf a : Int) + 1).toNat = L.idxOf a + 1 := by omega
  have e2 : List.take (L.length - (L.idxOf a + 1)) (List.drop (L.idxOf a + 1) (ints (nats L))) = ints ((nats L).drop (L.idxOf a + 1)) := by
    rw [ints_drop, List.take_of_length_le (by simp)]
  simp only [e1, e2]
  refine ⟨fun y hy => List.all_eq_true.1 (ints_one (List.drop (List.idxOf a L + 1) (nats L))) y hy, by omega, by omega, ⟨by kernel_rfl, by kernel_rfl⟩, .inl ?_⟩
  rw [← ints_append]
  simp
end Go.AM
