/-
  Contracts of the laws' helpers for lists of lists of numbers.
-/
import Derived.Test.YtnimmbjbinpajaaDoorFnMgA
set_option linter.unusedVariables false
set_option linter.unusedSimpArgs false
set_option maxRecDepth 100000
set_option maxHeartbeats 1600000
namespace Go.AM
open Go.Proofs
/-- How many numbers there are. -/
def total : List (List Int) → Nat
  | [] => 0
  | r :: rs => r.length + total rs
/-- All numbers in their order, from `k` on. -/
def markRows (k : Int) : List (List Int) → List (List Int)
  | [] => []
  | r :: rs => upFrom k r.length :: markRows (k + r.length) rs
@[simp] theorem markRows_length (k : Int) (rs : List (List Int)) : (markRows k rs).length = rs.length := by
  induction rs generalizing k with
  | nil => rfl
  | cons r rs ih => simp [markRows, ih]
theorem total_append (rs : List (List Int)) (r : List Int) : total (rs ++ [r]) = total rs + r.length := by
  induction rs with
  | nil => simp [total]
  | cons x rs ih => simp [total, ih]; omega
theorem markRows_append (k : Int) (rs : List (List Int)) (r : List Int) : markRows k (rs ++ [r]) = markRows k rs ++ [upFrom (k + total rs) r.length] := by
  induction rs generalizing k with
  | nil => simp [markRows, total]
  | cons x rs ih => simp only [List.cons_append, markRows, ih, total]; congr 4; omega
theorem total_take_le (rs : List (List Int)) : ∀ i, total (rs.take i) ≤ total rs := by
  induction rs with
  | nil => intro i; simp [total]
  | cons r rs ih =>
    intro i
    cases i with
    | zero => simp [total]
    | succ i => simp only [List.take_succ_cons, total]; have := ih i; omega
theorem take_succ_row (rs : List (List Int)) (i : Nat) (h : i < rs.length) : rs.take (i + 1) = rs.take i ++ [nthR rs i] := by
  rw [List.take_succ_eq_append_getElem h, nthR_at h]
theorem drop_row (rs : List (List Int)) (i : Nat) (h : i < rs.length) : rs.drop i = nthR rs i :: rs.drop (i + 1) := by
  rw [nthR_at h]; exact List.drop_eq_getElem_cons h
theorem total_row (rs : List (List Int)) (i : Nat) (h : i < rs.length) : total (rs.take (i + 1)) = total (rs.take i) + (nthR rs i).length := by
  rw [take_succ_row rs i h, total_append]
def RowsOk (rs : List (List Int)) : Prop := rs.length ≤ 1048576 ∧ total rs ≤ 1000000000000 ∧ ∀ r ∈ rs, ListOk r
theorem nthR_mem {rs : List (List Int)} {i : Nat} (h : i < rs.length) : nthR rs i ∈ rs := by rw [nthR_at h]; exact List.getElem_mem h
theorem aload_mid {P : Program} {t : TypeId} {Al Cl : List AV} {x : AV} {off : Nat} {rd : Bool} {K : Eff → Prop} (h : Al.length = off) (hag : tagg P t = false) (hc : cpy x = true) : aload P t (Al ++ x :: Cl) off rd K = (tok P t = true ∧ K { val := x, rd := rd }) := by
  unfold aload
  have e : (Al ++ x :: Cl).getD off .junk = x := by
    subst h; simp
  have : off < (Al ++ x :: Cl).length := by rw [← h]; simp
  rw [hag]
  simp only [Bool.false_eq_true, if_false, e, hc, this, true_and]
theorem eqInt64SSL (a b c d : Bool) (rs : List (List Int)) (h : RowsOk rs) : ACalls1 Tryd.prog 48 [.sl 1 a (srows b rs), .sl 1 c (srows d rs)] (bv true) := by
  obtain ⟨h1, h2, h3⟩ := h
  refine walk (fun _ => false) mixed Go.Proofs.Tryd.func48 rfl rfl rfl (by kernel_rfl) rfl (by simp) (by kernel_rfl) ?_
  simp
  refine awp_loop2 [0, 1] [] (fun k : Nat => [(5, iv k)]) (fun _ => []) (fun k => k ≤ rs.length) (fun k => rs.length - k) 0 (weak_mk some (by simp) (by simp) rfl) (by simp) ?_
  intro k hk
  by_cases hlt : k < rs.length
  · simp [hlt]
    refine ⟨_, eqInt64SL _ _ _ (h3 _ (nthR_mem hlt)), ?_⟩
    simp [wrap_id ((k : Int) + 1) (by omega) (by omega)]
    exact Round.mk (k + 1) (weak_mk some (by simp) (by simp) rfl) hlt (by omega)
  · simp [hlt]
theorem heldInt64SSL (a b : Bool) (rs : List (List Int)) (k : Int) (h : RowsOk rs) (h0 : 0 ≤ k) (hk : k ≤ 1000000000000) : ACalls1 Tryd.prog 68 [.sl 1 a (srows b (markRows k rs)), iv k] (iv (k + total rs)) := by
  obtain ⟨h1, h2, h3⟩ := h
  refine walk (fun _ => false) mixed Go.Proofs.Tryd.func68 rfl rfl rfl (by kernel_rfl) rfl (by simp) (by kernel_rfl) ?_
  simp
  refine awp_loop2 [0] [] (fun i : Nat => [(5, iv i), (1, iv (k + total (rs.take i)))]) (fun _ => []) (fun i => i ≤ rs.length) (fun i => rs.length - i) 0 (weak_mk some (by simp [total]) (by simp) rfl) (by simp) ?_
  intro i hi
  have ht := total_take_le rs i
  by_cases hlt : i < rs.length
  · have hrow : nthR (markRows k rs) i = upFrom (k + total (rs.take i)) (nthR rs i).length := by
      have e : markRows k rs = markRows k (rs.take i) ++ markRows (k + total (rs.take i)) (rs.drop i) := by
        clear hlt h3 h2 h1 hi ht h0 hk
        induction rs generalizing k i with
        | nil => simp [markRows]
        | cons r rs ih =>
          cases i with
          | zero => simp [markRows, total]
          | succ i =>
            simp only [List.take_succ_cons, List.drop_succ_cons, markRows, total, List.cons_append]
            rw [ih (k + r.length) i]
            congr 3; omega
      rw [e, drop_row rs i hlt, markRows, nthR, List.getD_eq_getElem?_getD, List.getElem?_append_right (by simp; omega)]
      simp [show min i rs.length = i by omega]
    have hf := (h3 _ (nthR_mem hlt)).1
    have ht2 := total_take_le rs (i + 1)
    rw [total_row rs i hlt] at ht2
    simp [hlt, hrow]
    refine ⟨_, heldInt64S_spec _ (nthR rs i).length (k + total (rs.take i)) hf (by omega) (by omega), ?_⟩
    simp [show ¬ (k + (total (rs.take i) : Int) + ((nthR rs i).length : Int) < 0) by omega, wrap_id ((i : Int) + 1) (by omega) (by omega)]
    refine Round.mk (i + 1) (weak_mk some ?_ (by simp) rfl) hlt (by omega)
    simp [total_row rs i hlt]
    omega
  · obtain rfl : i = rs.length := by omega
    simp
/-- The rows while they are marked: row `i` lies open. -/
def markO (nn b : Bool) (k : Int) (rs : List (List Int)) (i : Nat) : List (Nat × AV) :=
  if i < rs.length then [(1000000000, .opw 1 (orows b (markRows k (rs.take i)) ++ .ref 500 :: orows b (rs.drop (i + 1)))), (500, .own 1 b (ints (nthR rs i)))]
  else [(1000000000, .own 1 nn (orows b (markRows k rs)))]
theorem markInt64SSL (nn b : Bool) (rs : List (List Int)) (k : Int) (h : RowsOk rs) (h0 : 0 ≤ k) (hk : k ≤ 1000000000000) : ACalls2 Tryd.prog 67 [.own 1 nn (orows b rs), iv k] [.own 1 nn (orows b (markRows k rs)), iv k] (iv (k + total rs)) := by
  obtain ⟨h1, h2, h3⟩ := h
  refine walkO (fun t => t == 2017) mixed Go.Proofs.Tryd.func67 rfl rfl rfl (by kernel_rfl) (by simp) (by simp) (by simp) (by kernel_rfl) ?_
  simp
  have opened : ∀ (l : List (Nat × AV)) (n : Nat) (i : Nat), (l.all fun p => noR 500 p.2) = true → i ≤ rs.length →
      Weak ⟨asS l, asO [(1000000000, .own 1 nn (orows b (markRows k (rs.take i)) ++ orows b (rs.drop i)))], n⟩ ⟨asS l, asO (markO nn b k rs i), n⟩ := by
    intro l n i hl hi
    unfold markO
    by_cases hlt : i < rs.length
    · rw [if_pos hlt]
      have e : orows b (markRows k (rs.take i)) ++ orows b (rs.drop i) = orows b (markRows k (rs.take i)) ++ .own 1 b (ints (nthR rs i)) :: orows b (rs.drop (i + 1)) := by rw [drop_row rs i hlt, orows_cons]
      rw [e]
      have e2 : asO [(1000000000, .opw 1 (orows b (markRows k (rs.take i)) ++ .ref 500 :: orows b (rs.drop (i + 1)))), (500, .own 1 b (ints (nthR rs i))), (1000000000, .own 1 nn (orows b (markRows k (rs.take i)) ++ .own 1 b (ints (nthR rs i)) :: orows b (rs.drop (i + 1))))] =
          asO [(1000000000, .opw 1 (orows b (markRows k (rs.take i)) ++ .ref 500 :: orows b (rs.drop (i + 1)))), (500, .own 1 b (ints (nthR rs i)))] := by
        funext t
        simp only [asO]
        by_cases h1 : t = 1000000000
        · simp [h1]
        · simp [h1]
      rw [← e2]
      exact weak_open (nn := nn) 1000000000 500 (orows b (markRows k (rs.take i))) (orows b (rs.drop (i + 1))) (by simp [asO]) (by simp [asO]) ⟨by omega, hl, by simp [noR]⟩
    · rw [if_neg hlt]
      obtain rfl : i = rs.length := by omega
      rw [List.take_length, List.drop_length, orows_nil, List.append_nil]
      exact fun c a w h => h
  refine awp_loop (fun i : Nat => ⟨asS [(0, .ref 1000000000), (1, iv (k + total (rs.take i))), (5, iv i)], asO (markO nn b k rs i), 19⟩) (fun i => i ≤ rs.length) (fun i => rs.length - i) 0 ?_ (by simp) ?_
  · refine Weak.trans (weak_mk (l' := [(0, .ref 1000000000), (1, iv (k + total (rs.take 0))), (5, iv (0 : Nat))]) (ol' := [(1000000000, .own 1 nn (orows b (markRows k (rs.take 0)) ++ orows b (rs.drop 0)))]) some (by simp [total]) (by simp [markRows]) rfl) (opened _ _ 0 (by simp [noR]) (by omega))
  · intro i hi
    by_cases hlt : i < rs.length
    · have e : markO nn b k rs i = [(1000000000, .opw 1 (orows b (markRows k (rs.take i)) ++ .ref 500 :: orows b (rs.drop (i + 1)))), (500, .own 1 b (ints (nthR rs i)))] := by unfold markO; rw [if_pos hlt]
      have hf := (h3 _ (nthR_mem hlt)).1
      have ht2 := total_take_le rs (i + 1)
      have htr := total_row rs i hlt
      have hts := take_succ_row rs i hlt
      have hma : markRows k (rs.take (i + 1)) = markRows k (rs.take i) ++ [upFrom (k + total (rs.take i)) (nthR rs i).length] := by rw [hts, markRows_append]
      have hA : (markRows k (rs.take i)).length = i := by simp; omega
      have hC : (rs.drop (i + 1)).length = rs.length - (i + 1) := by simp
      have op : Weak ⟨asS [(0, .ref 1000000000), (1, iv (k + total (rs.take (i + 1)))), (5, iv ((i + 1 : Nat) : Int))], asO [(1000000000, .own 1 nn (orows b (markRows k (rs.take (i + 1))) ++ orows b (rs.drop (i + 1))))], 19⟩ ⟨asS [(0, .ref 1000000000), (1, iv (k + total (rs.take (i + 1)))), (5, iv ((i + 1 : Nat) : Int))], asO (markO nn b k rs (i + 1)), 19⟩ := opened _ _ _ (by simp [noR]) hlt
      rw [hma] at op
      rw [e]
      generalize markRows k (rs.take i) = Al at *
      generalize rs.drop (i + 1) = Cl at *
      have hl : ∀ {P : Program} {t : TypeId} {rd : Bool} {K : Eff → Prop}, tagg P t = false → aload P t (orows b Al ++ .ref 500 :: orows b Cl) i rd K = (tok P t = true ∧ K { val := .ref 500, rd := rd }) := fun h => aload_mid (by simpa using hA) h rfl
      have hlen : (orows b Al ++ AV.ref 500 :: orows b Cl).length = rs.length := by simp [hA, hC]; omega
      have hc := htr
      generalize total (rs.take i) = tt at *
      generalize hmid : orows b Al ++ AV.ref 500 :: orows b Cl = mid at *
      simp [hl, hlen, hlt, show i + 1 ≤ rs.length from hlt]
      refine ⟨_, _, markInt64S_spec b (nthR rs i) (k + tt) hf (by omega) (by omega), ?_⟩
      simp [wrap_id ((i : Int) + 1) (by omega) (by omega)]
      subst hmid
      refine Round.mk (i + 1) ?_ hlt (by omega)
      refine Weak.trans (weak_close (sz := 1) (s := 1) (nn' := b) (r := ints (upFrom (k + tt) (nthR rs i).length)) 1000000000 500 (orows b Al) (orows b Cl) (by simp [asO]) (by simp [asO]) (by omega) (orows_nrf _ _) (orows_nrf _ _)) ?_
      refine Weak.trans (weak_mk some ?_ ?_ rfl) op
      · simp [htr]; omega
      · simp [orows, List.append_assoc]
    · have e : markO nn b k rs i = [(1000000000, .own 1 nn (orows b (markRows k rs)))] := by unfold markO; rw [if_neg hlt]
      rw [e]
      obtain rfl : i = rs.length := by omega
      simp
end Go.AM
