/-
  Contracts of the laws' helpers for joints, rows and asynchronous automata.
-/
import Derived.Test.YtmpdpjpebekfkaaDoorFnR
import Derived.Test.YtmpdpjpebekfkaaDoorFnAv
set_option linter.unusedVariables false
set_option linter.unusedSimpArgs false
set_option maxRecDepth 100000
set_option maxHeartbeats 1600000
namespace Go.AM
open Go.Proofs
/-! Elements of several cells. -/
theorem flat_length {α : Type} {f : α → List AV} {s : Nat} (hf : ∀ a, (f a).length = s) (l : List α) : (l.flatMap f).length = l.length * s := by
  induction l with
  | nil => simp
  | cons a l ih => simp [List.flatMap_cons, hf, ih, Nat.succ_mul]; omega
theorem flat_drop {α : Type} {f : α → List AV} {s : Nat} (hf : ∀ a, (f a).length = s) : ∀ (l : List α) (n : Nat), (l.flatMap f).drop (n * s) = (l.drop n).flatMap f
  | l, 0 => by simp
  | [], n + 1 => by simp
  | a :: l, n + 1 => by
    rw [List.flatMap_cons, show (n + 1) * s = s + n * s by rw [Nat.succ_mul]; omega, ← List.drop_drop, List.drop_left' (hf a), List.drop_succ_cons]
    exact flat_drop hf l n
theorem flat_window {α : Type} {f : α → List AV} {s : Nat} (hf : ∀ a, (f a).length = s) {l : List α} {n : Nat} (d : α) (h : n < l.length) : ((l.flatMap f).drop (n * s)).take s = f (l.getD n d) := by
  rw [flat_drop hf, List.drop_eq_getElem_cons h, List.flatMap_cons, List.take_left' (hf _)]
  simp [h]
def sizeB (P : Program) (t : TypeId) (s : Nat) : Bool := match telem P t with | some e => tok P e && (tsize P e == s) | none => false
attribute [simp] sizeB
theorem idx_flat {P : Program} {st : St} {t : TypeId} {nn : Bool} {α : Type} {f : α → List AV} {s : Nat} {l : List α} {c : IntKind} {i : Int} {k : Eff → Prop} (hs : 0 < s) (hf : ∀ a, (f a).length = s) (d : α) (h : sizeB P t s = true) :
    indexAddrOp P st t (.sl s nn (l.flatMap f)) (.val (.int c i)) k = (0 ≤ i ∧ i.toNat < l.length ∧ k { val := .ip (f (l.getD i.toNat d)) }) := by
  unfold sizeB at h
  split at h
  · rename_i e he
    simp only [Bool.and_eq_true, beq_iff_eq] at h
    unfold indexAddrOp
    have fl := flat_length hf l
    simp only [he, slOf2, slOf, h.1, h.2, true_and, fl]
    have key : ∀ n : Nat, (n + 1) * s ≤ l.length * s ↔ n < l.length := fun n => by rw [Nat.mul_le_mul_right_iff hs]; omega
    refine propext ⟨?_, ?_⟩
    · rintro ⟨_, h0, h1, h2⟩
      have h1 := (key _).1 h1
      refine ⟨h0, h1, ?_⟩
      rw [flat_window hf d h1] at h2; exact h2
    · rintro ⟨h0, h1, h2⟩
      refine ⟨hs, h0, (key _).2 h1, ?_⟩
      rw [flat_window hf d h1]; exact h2
  · cases h
/-! Rows and joints. -/
abbrev JIn := Int × (Bool × List Int) × (Bool × List Int) × Unit
def jof (y : JIn) : J3 := (y.1, y.2.1.2, y.2.2.1.2)
def rin (l : List (Bool × List Int)) : List AV := l.flatMap fun p => [.sl 1 p.1 (ints p.2)]
def jin (l : List JIn) : List AV := l.flatMap fun y => [iv y.1, .sl 1 y.2.1.1 (ints y.2.1.2), .sl 1 y.2.2.1.1 (ints y.2.2.1.2)]
def jcl (l : List J3) : List AV := l.flatMap fun y => [iv y.1, .sl 1 true (ints y.2.1), .sl 1 true (ints y.2.2)]
def jow (l : List J3) : List AV := l.flatMap fun y => [iv y.1, .own 1 true (ints y.2.1), .own 1 true (ints y.2.2)]
@[simp] theorem rin_length (l : List (Bool × List Int)) : (rin l).length = l.length := by rw [rin, flat_length (s := 1) (fun _ => rfl)]; simp
@[simp] theorem jin_length (l : List JIn) : (jin l).length = l.length * 3 := by rw [jin, flat_length (s := 3) (fun _ => rfl)]
@[simp] theorem jcl_length (l : List J3) : (jcl l).length = l.length * 3 := by rw [jcl, flat_length (s := 3) (fun _ => rfl)]
@[simp] theorem jow_length (l : List J3) : (jow l).length = l.length * 3 := by rw [jow, flat_length (s := 3) (fun _ => rfl)]
@[simp] theorem jcl_nil : jcl [] = [] := rfl
@[simp] theorem jow_nil : jow [] = [] := rfl
theorem jcl_cons (j : J3) (l : List J3) : jcl (j :: l) = iv j.1 :: .sl 1 true (ints j.2.1) :: .sl 1 true (ints j.2.2) :: jcl l := rfl
theorem jow_cons (j : J3) (l : List J3) : jow (j :: l) = iv j.1 :: .own 1 true (ints j.2.1) :: .own 1 true (ints j.2.2) :: jow l := rfl
theorem jow_append (l m : List J3) : jow (l ++ m) = jow l ++ jow m := by simp [jow]
def nthI (l : List JIn) (n : Nat) : JIn := l.getD n (0, (false, []), (false, []), ())
def nthF (l : List (Bool × List Int)) (n : Nat) : Bool × List Int := l.getD n (false, [])
theorem nthI_at {l : List JIn} {n : Nat} (h : n < l.length) : nthI l n = l[n] := by simp [nthI, h]
theorem nthF_at {l : List (Bool × List Int)} {n : Nat} (h : n < l.length) : nthF l n = l[n] := by simp [nthF, h]
theorem nthI_mem {l : List JIn} {n : Nat} (h : n < l.length) : nthI l n ∈ l := by rw [nthI_at h]; exact List.getElem_mem h
theorem nthF_mem {l : List (Bool × List Int)} {n : Nat} (h : n < l.length) : nthF l n ∈ l := by rw [nthF_at h]; exact List.getElem_mem h
theorem idx_rin {P : Program} {st : St} {t : TypeId} {nn : Bool} {l : List (Bool × List Int)} {c : IntKind} {i : Int} {k : Eff → Prop} (h : sizeB P t 1 = true) :
    indexAddrOp P st t (.sl 1 nn (rin l)) (.val (.int c i)) k = (0 ≤ i ∧ i.toNat < l.length ∧ k { val := .ip [.sl 1 (nthF l i.toNat).1 (ints (nthF l i.toNat).2)] }) := idx_flat (s := 1) (by omega) (fun _ => rfl) _ h
theorem idx_jin {P : Program} {st : St} {t : TypeId} {nn : Bool} {l : List JIn} {c : IntKind} {i : Int} {k : Eff → Prop} (h : sizeB P t 3 = true) :
    indexAddrOp P st t (.sl 3 nn (jin l)) (.val (.int c i)) k = (0 ≤ i ∧ i.toNat < l.length ∧ k { val := .ip [iv (nthI l i.toNat).1, .sl 1 (nthI l i.toNat).2.1.1 (ints (nthI l i.toNat).2.1.2), .sl 1 (nthI l i.toNat).2.2.1.1 (ints (nthI l i.toNat).2.2.1.2)] }) := idx_flat (s := 3) (by omega) (fun _ => rfl) _ h
theorem idx_jcl {P : Program} {st : St} {t : TypeId} {nn : Bool} {l : List J3} {c : IntKind} {i : Int} {k : Eff → Prop} (h : sizeB P t 3 = true) :
    indexAddrOp P st t (.sl 3 nn (jcl l)) (.val (.int c i)) k = (0 ≤ i ∧ i.toNat < l.length ∧ k { val := .ip [iv (nthJ l i.toNat).1, .sl 1 true (ints (nthJ l i.toNat).2.1), .sl 1 true (ints (nthJ l i.toNat).2.2)] }) := idx_flat (s := 3) (by omega) (fun _ => rfl) _ h
attribute [simp high] idx_rin idx_jin idx_jcl
@[simp] theorem jcl_nrf (l : List J3) : nrfL (jcl l) = true := by
  induction l with
  | nil => rfl
  | cons r rs ih => simp [jcl_cons, nrfL, nrf, ih]
@[simp] theorem jow_nrf (l : List J3) : nrfL (jow l) = true := by
  induction l with
  | nil => rfl
  | cons r rs ih => simp [jow_cons, nrfL, nrf, ih]
@[simp] theorem jow_pur (l : List J3) : purL (jow l) = true := by
  induction l with
  | nil => rfl
  | cons r rs ih => simp [jow_cons, purL, pur, ih]
@[simp] theorem jow_view (l : List J3) : viewL (jow l) = jcl l := by
  induction l with
  | nil => rfl
  | cons r rs ih => simp [jow_cons, jcl_cons, viewL, view, ih]
@[simp] theorem jcl_view (l : List J3) : viewL (jcl l) = jcl l := by
  induction l with
  | nil => rfl
  | cons r rs ih => simp [jcl_cons, viewL, view, ih]
@[simp ↓ high] theorem jcl_cpy (l : List J3) : (jcl l).all cpy = true := by simp [jcl, cpy]
@[simp ↓ high] theorem jcl_one (l : List J3) : (jcl l).all one = true := by simp [jcl, one]
@[simp ↓ high] theorem jow_one (l : List J3) : (jow l).all one = true := by simp [jow, one]
/-! Sizes. -/
def totF : List (Bool × List Int) → Nat
  | [] => 0
  | r :: rs => r.2.length + totF rs
def totJ : List JIn → Nat
  | [] => 0
  | r :: rs => r.2.1.2.length + r.2.2.1.2.length + totJ rs
theorem totF_snoc (rs : List (Bool × List Int)) (r : Bool × List Int) : totF (rs ++ [r]) = totF rs + r.2.length := by
  induction rs with
  | nil => simp [totF]
  | cons x rs ih => simp [totF, ih]; omega
theorem totJ_snoc (rs : List JIn) (r : JIn) : totJ (rs ++ [r]) = totJ rs + (r.2.1.2.length + r.2.2.1.2.length) := by
  induction rs with
  | nil => simp [totJ]
  | cons x rs ih => simp [totJ, ih]; omega
theorem totF_le (rs : List (Bool × List Int)) : ∀ i, totF (rs.take i) ≤ totF rs := by
  induction rs with
  | nil => intro i; simp [totF]
  | cons r rs ih =>
    intro i
    cases i with
    | zero => simp [totF]
    | succ i => simp only [List.take_succ_cons, totF]; have := ih i; omega
theorem totJ_le (rs : List JIn) : ∀ i, totJ (rs.take i) ≤ totJ rs := by
  induction rs with
  | nil => intro i; simp [totJ]
  | cons r rs ih =>
    intro i
    cases i with
    | zero => simp [totJ]
    | succ i => simp only [List.take_succ_cons, totJ]; have := ih i; omega
theorem takeF (rs : List (Bool × List Int)) (i : Nat) (h : i < rs.length) : rs.take (i + 1) = rs.take i ++ [nthF rs i] := by rw [List.take_succ_eq_append_getElem h, nthF_at h]
theorem takeI (rs : List JIn) (i : Nat) (h : i < rs.length) : rs.take (i + 1) = rs.take i ++ [nthI rs i] := by rw [List.take_succ_eq_append_getElem h, nthI_at h]
def RowsIn (l : List (Bool × List Int)) : Prop := l.length ≤ maxLen ∧ ∀ r ∈ l, Int64SIn r.2
def JointsIn (l : List JIn) : Prop := l.length ≤ maxLen ∧ ∀ j ∈ l, I64 j.1 ∧ Int64SIn j.2.1.2 ∧ Int64SIn j.2.2.1.2
def RowsOkF (l : List (Bool × List Int)) : Prop := l.length ≤ 1048576 ∧ ∀ r ∈ l, ListOk r.2
def JointsOk (l : List JIn) : Prop := l.length ≤ 1048576 ∧ ∀ j ∈ l, I64 j.1 ∧ ListOk j.2.1.2 ∧ ListOk j.2.2.1.2
theorem szJointL (y : JIn) (left : Int) (h : Int64SIn y.2.1.2 ∧ Int64SIn y.2.2.1.2) (h0 : 0 ≤ left) (h1 : left ≤ 1048576) :
    ACalls1 Tryd.prog 105 [.agg [iv y.1, .sl 1 y.2.1.1 (ints y.2.1.2), .sl 1 y.2.2.1.1 (ints y.2.2.1.2)], iv left] (iv (szI left (y.2.1.2.length + y.2.2.1.2.length))) := by
  refine walk (fun t => t == 2) mixed Go.Proofs.Tryd.func105 rfl rfl rfl (by kernel_rfl) rfl (by simp) (by kernel_rfl) ?_
  simp
  have b0 : szI left y.2.1.2.length ≤ 1048576 := by unfold szI; split <;> omega
  refine ⟨_, szInt64S_spec _ y.2.1.2 _ h.1.1 (by omega) (by omega), ?_⟩
  simp
  refine ⟨by unfold szI at *; grind, fun g0 => ?_⟩
  refine ⟨_, szInt64S_spec _ y.2.2.1.2 _ h.2.1 (by omega) (by omega), ?_⟩
  simp
  unfold szI at *
  grind
theorem szJointSL (nn : Bool) (l : List JIn) (left : Int) (h : JointsIn l) (h0 : 0 ≤ left) (h1 : left ≤ 1048576) : ACalls1 Tryd.prog 51 [.sl 3 nn (jin l), iv left] (iv (szI left (l.length + totJ l))) := by
  have hmx := h.1
  unfold maxLen at hmx
  refine walk (fun _ => false) mixed Go.Proofs.Tryd.func51 rfl rfl rfl (by kernel_rfl) rfl (by simp) (by kernel_rfl) ?_
  simp
  rw [wrap_id _ (by omega) (by omega)]
  refine ⟨fun g => by unfold szI; rw [if_pos (by omega)], fun g => ?_⟩
  refine awp_loop2 [0] [] (fun i : Nat => [(5, iv i), (1, iv (left - l.length - totJ (l.take i)))]) (fun _ => []) (fun i => i ≤ l.length ∧ 0 ≤ left - l.length - (totJ (l.take i) : Int)) (fun i => l.length - i) 0 (weak_mk some (by simp [totJ]) (by simp) rfl) (by simp [totJ]; omega) ?_
  rintro i ⟨hi, hp⟩
  have ht := totJ_le l i
  by_cases hlt : i < l.length
  · have ht2 := totJ_le l (i + 1)
    have hs : totJ (l.take (i + 1)) = totJ (l.take i) + ((nthI l i).2.1.2.length + (nthI l i).2.2.1.2.length) := by rw [takeI l i hlt, totJ_snoc]
    have hm := h.2 _ (nthI_mem hlt)
    simp [hlt]
    refine ⟨_, szJointL (nthI l i) _ hm.2 (by omega) (by omega), ?_⟩
    simp
    constructor
    · intro g2
      unfold szI at *
      rw [if_pos (by split at g2 <;> omega)]
    · intro g2
      have e : szI (left - l.length - totJ (l.take i)) ((nthI l i).2.1.2.length + (nthI l i).2.2.1.2.length) = left - l.length - totJ (l.take (i + 1)) := by unfold szI at *; split at g2 <;> omega
      rw [e] at g2 ⊢
      simp [wrap_id ((i : Int) + 1) (by omega) (by omega)]
      exact Round.mk (i + 1) (weak_mk some (by simp) (by simp) rfl) ⟨hlt, by omega⟩ (by omega)
  · obtain rfl : i = l.length := by omega
    simp
    unfold szI
    rw [List.take_length] at *
    rw [if_neg (by omega)]; omega
theorem szInt64SSL (nn : Bool) (l : List (Bool × List Int)) (left : Int) (h : RowsIn l) (h0 : 0 ≤ left) (h1 : left ≤ 1048576) : ACalls1 Tryd.prog 52 [.sl 1 nn (rin l), iv left] (iv (szI left (l.length + totF l))) := by
  have hmx := h.1
  unfold maxLen at hmx
  refine walk (fun _ => false) mixed Go.Proofs.Tryd.func52 rfl rfl rfl (by kernel_rfl) rfl (by simp) (by kernel_rfl) ?_
  simp
  rw [wrap_id _ (by omega) (by omega)]
  refine ⟨fun g => by unfold szI; rw [if_pos (by omega)], fun g => ?_⟩
  refine awp_loop2 [0] [] (fun i : Nat => [(5, iv i), (1, iv (left - l.length - totF (l.take i)))]) (fun _ => []) (fun i => i ≤ l.length ∧ 0 ≤ left - l.length - (totF (l.take i) : Int)) (fun i => l.length - i) 0 (weak_mk some (by simp [totF]) (by simp) rfl) (by simp [totF]; omega) ?_
  rintro i ⟨hi, hp⟩
  have ht := totF_le l i
  by_cases hlt : i < l.length
  · have ht2 := totF_le l (i + 1)
    have hs : totF (l.take (i + 1)) = totF (l.take i) + (nthF l i).2.length := by rw [takeF l i hlt, totF_snoc]
    have hm := h.2 _ (nthF_mem hlt)
    simp [hlt]
    refine ⟨_, szInt64S_spec _ (nthF l i).2 _ hm.1 (by omega) (by omega), ?_⟩
    simp
    constructor
    · intro g2
      unfold szI at *
      rw [if_pos (by split at g2 <;> omega)]
    · intro g2
      have e : szI (left - l.length - totF (l.take i)) (nthF l i).2.length = left - l.length - totF (l.take (i + 1)) := by unfold szI at *; split at g2 <;> omega
      rw [e] at g2 ⊢
      simp [wrap_id ((i : Int) + 1) (by omega) (by omega)]
      exact Round.mk (i + 1) (weak_mk some (by simp) (by simp) rfl) ⟨hlt, by omega⟩ (by omega)
  · obtain rfl : i = l.length := by omega
    simp
    unfold szI
    rw [List.take_length] at *
    rw [if_neg (by omega)]; omega
end Go.AM
