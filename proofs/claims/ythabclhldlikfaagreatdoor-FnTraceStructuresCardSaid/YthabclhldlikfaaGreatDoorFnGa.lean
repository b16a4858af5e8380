/-
  Contracts: lists joined; a list without one of its elements.
-/
import Derived.Test.YthabclhldlikfaaGreatDoorFnM
import Derived.Test.YthabclhldlikfaaGreatDoorFnNt
set_option linter.unusedVariables false
set_option linter.unusedSimpArgs false
set_option maxRecDepth 100000
set_option maxHeartbeats 1600000
namespace Go.AM
open Go.Proofs
theorem Grow_nil (n : Nat) (hn : n < 1099511627776) : ACalls1 Tryz.prog 196 [.val (.slice none 0 0), iv n] (.own 1 false []) := by
  refine walk (fun _ => false) mixed Go.Proofs.Tryz.func196 rfl rfl rfl (by kernel_rfl) rfl (by simp) (by kernel_rfl) ?_
  have w0 : IntKind.i64.wrap 0 = 0 := by decide
  have wn : IntKind.i64.wrap (n : Int) = n := wrap_id _ (by omega) (by omega)
  by_cases h : n = 0
  · subst h; simp [w0]
  · simp [w0, wn, show ¬ (n : Int) < 0 by omega, show 0 < n by omega]
    omega
/-- Rows, each with the word whether it is surely no nil. -/
def frows (ps : List (Bool × List Int)) : List AV := ps.map fun p => .sl 1 p.1 (ints p.2)
def joinR (ps : List (Bool × List Int)) : List Int := ps.flatMap fun p => p.2
@[simp] theorem frows_length (ps : List (Bool × List Int)) : (frows ps).length = ps.length := by simp [frows]
theorem frows_window (ps : List (Bool × List Int)) (n : Nat) (h : n < ps.length) : ((frows ps).drop n).take 1 = [.sl 1 ps[n].1 (ints ps[n].2)] := by
  rw [frows, ← List.map_drop, ← List.map_take, List.drop_eq_getElem_cons h]; rfl
theorem idx_frows {P : Program} {st : St} {t : TypeId} {nn : Bool} {ps : List (Bool × List Int)} {c : IntKind} {n : Nat} {k : Eff → Prop} (h : oneB P t = true) (hn : n < ps.length) :
    indexAddrOp P st t (.sl 1 nn (frows ps)) (.val (.int c n)) k = k { val := .ip [.sl 1 ps[n].1 (ints ps[n].2)] } := by
  unfold oneB at h
  split at h
  · rename_i e he
    simp only [Bool.and_eq_true, beq_iff_eq] at h
    unfold indexAddrOp
    simp only [he, slOf2, slOf, h.1, h.2, true_and, Nat.mul_one, frows_length, Nat.lt_add_one, Int.toNat_natCast]
    refine propext ⟨?_, ?_⟩
    · rintro ⟨h0, h1, h2⟩
      rw [frows_window ps _ hn] at h2; exact h2
    · intro h2
      refine ⟨by omega, by omega, ?_⟩
      rw [frows_window ps _ hn]; exact h2
  · cases h
theorem joinR_take (ps : List (Bool × List Int)) (k : Nat) (h : k < ps.length) : joinR (ps.take (k + 1)) = joinR (ps.take k) ++ ps[k].2 := by
  unfold joinR; rw [List.take_succ_eq_append_getElem h, List.flatMap_append]; simp
theorem joinR_take_le (ps : List (Bool × List Int)) (k : Nat) : (joinR (ps.take k)).length ≤ (joinR ps).length := by
  have e : joinR ps = joinR (ps.take k) ++ joinR (ps.drop k) := by
    unfold joinR; rw [← List.flatMap_append, List.take_append_drop]
  rw [e, List.length_append]; omega
theorem Concat_spec (nn : Bool) (ps : List (Bool × List Int)) (hp : ps.length < 1000000) (hl : (joinR ps).length < 1099511627776) : ACalls1 Tryz.prog 134 [.sl 1 nn (frows ps)] (.own 1 false (ints (joinR ps))) := by
  refine walk (fun _ => false) mixed Go.Proofs.Tryz.func134 rfl rfl rfl (by kernel_rfl) rfl (by simp) (by kernel_rfl) ?_
  simp
  refine awp_loop2 [0, 9, 10] [] (fun k : Nat => [(11, iv k), (3, iv ((joinR (ps.take k)).length))]) (fun _ => []) (fun k => k ≤ ps.length) (fun k => ps.length - k) 0 (weak_mk some (by simp [joinR]) (by simp) rfl) (by simp) ?_
  intro k hk
  have hle := joinR_take_le ps k
  by_cases hlt : k < ps.length
  · have hle2 := joinR_take_le ps (k + 1)
    have hj := joinR_take ps k hlt
    rw [hj, List.length_append] at hle2
    simp [hlt, idx_frows]
    rw [wrap_id _ (by omega) (by omega)]
    simp [wrap_id ((k : Int) + 1) (by omega) (by omega)]
    refine ⟨by omega, fun _ => ?_⟩
    exact Round.mk (k + 1) (weak_mk some (by simp [hj]) (by simp) rfl) hlt (by omega)
  · obtain rfl : k = ps.length := by omega
    simp
    refine ⟨_, Grow_nil _ hl, ?_⟩
    simp
    refine awp_loop2 [25, 26] [] (fun k : Nat => [(27, iv k), (6, .ref 100)]) (fun k => [(100, .own 1 false (ints (joinR (ps.take k))))]) (fun k => k ≤ ps.length) (fun k => ps.length - k) 0 (weak_mk (fun t => if t = 100 then some 24 else some t) (by simp) (by simp [joinR]) rfl) (by simp) ?_
    intro k hk
    have hle := joinR_take_le ps k
    by_cases hlt : k < ps.length
    · have hle2 := joinR_take_le ps (k + 1)
      have hj := joinR_take ps k hlt
      have hle3 := hle2
      rw [hj, List.length_append] at hle3
      simp [hlt, idx_frows, wrap_id ((k : Int) + 1) (by omega) (by omega)]
      repeat (refine And.intro (by omega) ?_)
      exact Round.mk (k + 1) (weak_mk (fun t => if t = 100 then some 33 else some t) (by simp) (by simp [hj, ints_append]) rfl) hlt (by omega)
    · obtain rfl : k = ps.length := by omega
      simp
/-- Numbers as words. -/
theorem nats_take (L : List Nat) (k : Nat) : (nats L).take k = nats (L.take k) := by simp [nats, List.map_take]
theorem nats_drop (L : List Nat) (k : Nat) : (nats L).drop k = nats (L.drop k) := by simp [nats, List.map_drop]
theorem nats_append (L K : List Nat) : nats L ++ nats K = nats (L ++ K) := by simp [nats]
theorem mem_nats {L : List Nat} {a : Nat} : ((a : Int) ∈ nats L) = (a ∈ L) := by
  apply propext
  unfold nats
  rw [List.mem_map]
  constructor
  · rintro ⟨b, hb, e⟩
    have : b = a := by omega
    subst this; exact hb
  · intro h; exact ⟨a, h, rfl⟩
theorem erase_idx {L : List Nat} {a : Nat} (h : a ∈ L) : L.take (L.idxOf a) ++ L.drop (L.idxOf a + 1) = L.erase a := by
  rw [← List.eraseIdx_eq_take_drop_succ, List.erase_eq_eraseIdx_of_idxOf rfl]
theorem idxOf_nats {L : List Nat} {a : Nat} (h : a ∈ L) : idxI (nats L) a = (L.idxOf a : Nat) := by
  have hl := List.idxOf_lt_length_of_mem h
  refine idxI_some (by simpa using hl) (by rw [nats_nth hl, natAt_at hl, List.getElem_idxOf hl]) fun i hi => ?_
  have hil : i < L.length := by omega
  rw [nats_nth hil, natAt_at hil]
  intro e
  have e1 : L[i] = a := by omega
  have := List.not_of_lt_findIdx (p := (· == a)) (xs := L) (i := i) hi
  simp [e1] at this
theorem withoutFirst_spec (nn : Bool) (L : List Nat) (hl : L.length < 1099511627776) (a : Nat) (ha : a ∈ L) : ACalls1 Tryz.prog 155 [.sl 1 nn (ints (nats L)), iv a] (.own 1 false (ints (nats (L.erase a)))) := by
  have hi := List.idxOf_lt_length_of_mem ha
  rw [← erase_idx ha, ← nats_append, ← nats_take, ← nats_drop]
  refine walk (fun t => t == 1009) mixed Go.Proofs.Tryz.func155 rfl rfl rfl (by kernel_rfl) rfl (by simp) (by kernel_rfl) ?_
  simp
  refine ⟨_, Index_spec _ _ (by simpa [Fits] using hl) _, ?_⟩
  rw [idxOf_nats ha]
  simp
  rw [wrap_id _ (by omega) (by omega)]
  repeat (refine And.intro (by omega) ?_)
  have e1 : ((L.idxOf a : Int) + 1).toNat = L.idxOf a + 1 := by omega
  have e2 : List.take (L.length - (L.idxOf a + 1)) (List.drop (L.idxOf a + 1) (ints (nats L))) = ints ((nats L).drop (L.idxOf a + 1)) := by
    rw [ints_drop, List.take_of_length_le (by simp)]
  have e3 : List.take (L.idxOf a) (ints (nats L)) = ints ((nats L).take (L.idxOf a)) := ints_take _ _
  simp only [e1, e2, e3]
  have hc := Concat_spec true [(nn, (nats L).take (L.idxOf a)), (nn, (nats L).drop (L.idxOf a + 1))] (by simp) (by simp [joinR]; omega)
  refine ⟨_, hc, ?_⟩
  simp [joinR]
  first | refine ⟨⟨by kernel_rfl, by kernel_rfl⟩, ?_⟩ | exact ⟨by kernel_rfl, by kernel_rfl⟩
theorem l03Without_spec (nn : Bool) (L : List Nat) (hl : L.length < 1099511627776) (a : Nat) (ha : a ∈ L) : ACalls1 Tryz.prog 183 [.sl 1 nn (ints (nats L)), iv (L.idxOf a : Nat)] (.own 1 false (ints (nats (L.erase a)))) := by
  have hi := List.idxOf_lt_length_of_mem ha
  rw [← erase_idx ha, ← nats_append, ← nats_take, ← nats_drop]
  refine walk (fun t => t == 1005) mixed Go.Proofs.Tryz.func183 rfl rfl rfl (by kernel_rfl) rfl (by simp) (by kernel_rfl) ?_
  simp
  repeat (refine And.intro (by omega) ?_)
  simp only [ints_take]
  refine ⟨_, l01Own_spec _ _ (by simp [Fits]; omega), ?_⟩
  simp
  rw [wrap_id _ (by omega) (by omega)]
  repeat (refine And.intro (by omega) ?_)
  have e1 : ((L.idxOf a : Int) + 1).toNat = L.idxOf a + 1 := by omega
  have e2 : List.take (L.length - (L.idxOf a + 1)) (List.drop (L.idxOf a + 1) (ints (nats L))) = ints ((nats L).drop (L.idxOf a + 1)) := by
    rw [ints_drop, List.take_of_length_le (by simp)]
  simp only [e1, e2]
  refine ⟨fun y hy => List.all_eq_true.1 (ints_one (List.drop (List.idxOf a L + 1) (nats L))) y hy, by omega, by omega, ⟨by kernel_rfl, by kernel_rfl⟩, .inl ?_⟩
  rw [← ints_append]
  simp
end Go.AM
