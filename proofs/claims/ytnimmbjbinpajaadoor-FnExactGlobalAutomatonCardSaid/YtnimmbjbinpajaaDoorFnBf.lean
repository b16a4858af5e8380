/-
  Marks of joints.
-/
import Derived.Test.YtnimmbjbinpajaaDoorFnMgB
import Derived.Test.YtnimmbjbinpajaaDoorAmWk
set_option linter.unusedVariables false
set_option linter.unusedSimpArgs false
set_option maxRecDepth 100000
set_option maxHeartbeats 1600000
namespace Go.AM
open Go.Proofs
/-- All numbers of the joints in their order, from `k` on. -/
def markJ (k : Int) : List J3 → List J3
  | [] => []
  | j :: js => (k, upFrom (k + 1) j.2.1.length, upFrom (k + 1 + j.2.1.length) j.2.2.length) :: markJ (k + 1 + j.2.1.length + j.2.2.length) js
def totK : List J3 → Nat
  | [] => 0
  | j :: js => 1 + j.2.1.length + j.2.2.length + totK js
theorem totK_snoc (l : List J3) (j : J3) : totK (l ++ [j]) = totK l + (1 + j.2.1.length + j.2.2.length) := by
  induction l with
  | nil => simp [totK]
  | cons x l ih => simp [totK, ih]; omega
theorem markJ_snoc (k : Int) (l : List J3) (j : J3) : markJ k (l ++ [j]) = markJ k l ++ [(k + totK l, upFrom (k + totK l + 1) j.2.1.length, upFrom (k + totK l + 1 + j.2.1.length) j.2.2.length)] := by
  induction l generalizing k with
  | nil => simp [markJ, totK]
  | cons x l ih =>
    simp only [List.cons_append, markJ, ih, totK]
    have e : k + 1 + (x.2.1.length : Int) + x.2.2.length + totK l = k + (1 + x.2.1.length + x.2.2.length + totK l : Nat) := by omega
    rw [e]
@[simp] theorem markJ_length (k : Int) (l : List J3) : (markJ k l).length = l.length := by
  induction l generalizing k with
  | nil => rfl
  | cons x l ih => simp [markJ, ih]
theorem totK_le (l : List J3) : ∀ i, totK (l.take i) ≤ totK l := by
  induction l with
  | nil => intro i; simp [totK]
  | cons r rs ih =>
    intro i
    cases i with
    | zero => simp [totK]
    | succ i => simp only [List.take_succ_cons, totK]; have := ih i; omega
theorem takeJ (l : List J3) (i : Nat) (h : i < l.length) : l.take (i + 1) = l.take i ++ [nthJ l i] := by rw [List.take_succ_eq_append_getElem h, nthJ_at h]
theorem dropJ (l : List J3) (i : Nat) (h : i < l.length) : l.drop i = nthJ l i :: l.drop (i + 1) := by rw [List.drop_eq_getElem_cons h, nthJ_at h]
/-- One cell of the slice that was handed over lies open; and is shut again. -/
theorem open1 {s : List (Nat × AV)} {n sz s1 : Nat} {nn nn' : Bool} {r : List AV} (A C : List AV) (d : Nat) (hd : d < 1000000000) (hs : (s.all fun p => noR d p.2) = true) :
    Weak ⟨asS s, asO [(1000000000, .own sz nn (A ++ .own s1 nn' r :: C))], n⟩ ⟨asS s, asO [(1000000000, .opw sz (A ++ .ref d :: C)), (d, .own s1 nn' r)], n⟩ := by
  have e : asO [(1000000000, .opw sz (A ++ .ref d :: C)), (d, .own s1 nn' r), (1000000000, .own sz nn (A ++ .own s1 nn' r :: C))] = asO [(1000000000, .opw sz (A ++ .ref d :: C)), (d, .own s1 nn' r)] := by
    funext t
    simp only [asO]
    by_cases h1 : t = 1000000000
    · simp [h1]
    · have h2 : ¬ 1000000000 = t := fun e => h1 e.symm
      simp [h1, h2]
  rw [← e]
  exact fun {P} c a w hh => (weak_open (sz := sz) (s := s1) (nn := nn) (nn' := nn') (r := r) (l := s) (ol := [(1000000000, .own sz nn (A ++ .own s1 nn' r :: C))]) (n := n) 1000000000 d A C (by simp [asO]) (by simp only [asO]; rw [if_neg (by omega)]) ⟨hd, hs, by simp [noR]⟩) c a w hh
theorem close1 {s : List (Nat × AV)} {n sz s1 : Nat} {nn' : Bool} {r : List AV} (A C : List AV) (d : Nat) (hd : d < 1000000000) (hA : nrfL A = true) (hC : nrfL C = true) :
    Weak ⟨asS s, asO [(1000000000, .opw sz (A ++ .ref d :: C)), (d, .own s1 nn' r)], n⟩ ⟨asS s, asO [(1000000000, .own sz true (A ++ .own s1 nn' r :: C))], n⟩ := by
  have hne : ¬ d = 1000000000 := by omega
  have hne2 : ¬ 1000000000 = d := by omega
  have e : asO ((1000000000, .own sz true (A ++ .own s1 nn' r :: C)) :: del' d [(1000000000, .opw sz (A ++ .ref d :: C)), (d, .own s1 nn' r)]) = asO [(1000000000, .own sz true (A ++ .own s1 nn' r :: C))] := by
    funext t
    simp only [asO, del', if_neg hne2, if_true]
    by_cases h1 : t = 1000000000
    · simp [h1]
    · have h2 : ¬ 1000000000 = t := fun e => h1 e.symm
      simp [h1, h2]
  rw [← e]
  exact fun {P} c a w hh => (weak_close (l := s) (ol := [(1000000000, .opw sz (A ++ .ref d :: C)), (d, .own s1 nn' r)]) (n := n) (sz := sz) (s := s1) (nn' := nn') (r := r) 1000000000 d A C (by simp [asO]) (by simp [asO, hne, hne2]) (by omega) hA hC) c a w hh
theorem nrfL_app {a b : List AV} (ha : nrfL a = true) (hb : nrfL b = true) : nrfL (a ++ b) = true := by
  induction a with
  | nil => exact hb
  | cons x a ih => simp only [nrfL, List.cons_append, Bool.and_eq_true] at ha ⊢; exact ⟨ha.1, ih ha.2⟩
theorem markJointSL (l : List J3) (k : Int) (hl : l.length ≤ 1048576) (h : ∀ j ∈ l, ListOk j.2.1 ∧ ListOk j.2.2) (hk : 0 ≤ k ∧ k ≤ 1099511627776) (ht : totK l ≤ 1099511627776) :
    ACalls2 Tryd.prog 66 [.own 3 true (jow l), iv k] [.own 3 true (jow (markJ k l)), iv k] (iv (k + totK l)) := by
  refine walkO (fun t => t == 2025 || t == 2032 || t == 6017 || t == 6019 || t == 6026) mixed Go.Proofs.Tryd.func66 rfl rfl rfl (by kernel_rfl) (by simp) (by simp) (by simp) (by kernel_rfl) ?_
  simp
  refine awp_loop (fun i : Nat => ⟨asS [(0, .ref 1000000000), (1, iv (k + totK (l.take i))), (5, iv i)], asO [(1000000000, .own 3 true (jow (markJ k (l.take i)) ++ jow (l.drop i)))], 34⟩) (fun i => i ≤ l.length) (fun i => l.length - i) 0 (weak_mk some (by simp [totK]) (by simp [markJ]) rfl) (by simp) ?_
  intro i hi
  by_cases hlt : i < l.length
  · have hj := h _ (nthJ_mem hlt)
    have hle := totK_le l (i + 1)
    have hs : totK (l.take (i + 1)) = totK (l.take i) + (1 + (nthJ l i).2.1.length + (nthJ l i).2.2.length) := by rw [takeJ l i hlt, totK_snoc]
    have hmk : jow (markJ k (l.take (i + 1))) = jow (markJ k (l.take i)) ++ [iv (k + totK (l.take i)), .own 1 true (ints (upFrom (k + totK (l.take i) + 1) (nthJ l i).2.1.length)), .own 1 true (ints (upFrom (k + totK (l.take i) + 1 + (nthJ l i).2.1.length) (nthJ l i).2.2.length))] := by
      rw [takeJ l i hlt, markJ_snoc, jow_append]; rfl
    rw [dropJ l i hlt, jow_cons]
    have hAl : (jow (markJ k (l.take i))).length = i * 3 := by simp; omega
    have hAn := jow_nrf (markJ k (l.take i))
    have hCl : (jow (l.drop (i + 1))).length = (l.length - (i + 1)) * 3 := by simp
    have hCn := jow_nrf (l.drop (i + 1))
    have hj1 := hj.1.1
    have hj2 := hj.2.1
    unfold Fits at hj1 hj2
    generalize nthJ l i = j at *
    obtain ⟨a, from1, to1⟩ := j
    simp only at *
    have hkk : 0 ≤ k + (totK (l.take i) : Int) ∧ k + (totK (l.take i) : Int) + 1 + from1.length + to1.length ≤ 2199023255552 := by omega
    have hend : k + (totK (l.take (i + 1)) : Int) = k + (totK (l.take i) : Int) + 1 + from1.length + to1.length := by omega
    generalize jow (markJ k (l.take i)) = A at *
    generalize hCd : jow (l.drop (i + 1)) = C at *
    generalize k + (totK (l.take i) : Int) = kk at *
    simp [hlt, hAl, hCl]
    refine ⟨fun _ => ⟨by omega, ?_⟩, fun hbad => by exfalso; omega⟩
    rw [wrap_id _ (by omega) (by omega)]
    have e1 : List.drop (i * 3 + 1) (A ++ iv a :: AV.own 1 true (ints from1) :: AV.own 1 true (ints to1) :: C) = AV.own 1 true (ints from1) :: AV.own 1 true (ints to1) :: C := by
      rw [← List.drop_drop, List.drop_left' hAl]; simp
    rw [e1]
    refine WkK.mk (Weak.trans (weak_mk (l' := [(0, .ref 1000000000), (1, iv (kk + 1)), (5, iv i)]) (ol' := [(1000000000, .own 3 true ((A ++ [iv kk]) ++ AV.own 1 true (ints from1) :: AV.own 1 true (ints to1) :: C))]) some (by simp) (by simp) rfl) (open1 (A ++ [iv kk]) (AV.own 1 true (ints to1) :: C) 500 (by omega) (by simp [noR]))) ?_
    have hA1 : (A ++ [iv kk]).length = i * 3 + 1 := by simp [hAl]
    have hld1 : ∀ {P : Program} {t : TypeId} {rd : Bool} {K : Eff → Prop}, tagg P t = false → aload P t ((A ++ [iv kk]) ++ .ref 500 :: AV.own 1 true (ints to1) :: C) (i * 3 + 1) rd K = (tok P t = true ∧ K { val := .ref 500, rd := rd }) := fun h => aload_mid hA1 h rfl
    have hln1 : ((A ++ [iv kk]) ++ AV.ref 500 :: AV.own 1 true (ints to1) :: C).length = l.length * 3 := by simp [hAl, hCl]; omega
    generalize hmid1 : (A ++ [iv kk]) ++ AV.ref 500 :: AV.own 1 true (ints to1) :: C = mid1 at *
    simp [hld1, hln1, hlt]
    refine ⟨by omega, ?_⟩
    refine ⟨_, _, markInt64S_spec true from1 (kk + 1) hj.1.1 (by omega) (by omega), ?_⟩
    simp
    subst hmid1
    generalize hF : upFrom (kk + 1) from1.length = F at *
    refine WkK.mk (Weak.trans (weak_close (sz := 3) (s := 1) (nn' := true) (r := ints F) 1000000000 500 (A ++ [iv kk]) (AV.own 1 true (ints to1) :: C) (by simp [asO]) (by simp [asO]) (by omega) (nrfL_app hAn (by simp [nrfL, nrf])) (by simp [nrfL, nrf, hCn]))
      (Weak.trans (weak_mk (l' := [(0, .ref 1000000000), (1, iv (kk + 1 + from1.length)), (5, iv i)]) (ol' := [(1000000000, .own 3 true ((A ++ [iv kk, AV.own 1 true (ints F)]) ++ AV.own 1 true (ints to1) :: C))]) some (by simp) (by simp) rfl) (open1 (A ++ [iv kk, AV.own 1 true (ints F)]) C 501 (by omega) (by simp [noR])))) ?_
    have hA2 : (A ++ [iv kk, AV.own 1 true (ints F)]).length = i * 3 + 2 := by simp [hAl]
    have hld2 : ∀ {P : Program} {t : TypeId} {rd : Bool} {K : Eff → Prop}, tagg P t = false → aload P t ((A ++ [iv kk, AV.own 1 true (ints F)]) ++ .ref 501 :: C) (i * 3 + 2) rd K = (tok P t = true ∧ K { val := .ref 501, rd := rd }) := fun h => aload_mid hA2 h rfl
    have hln2 : ((A ++ [iv kk, AV.own 1 true (ints F)]) ++ AV.ref 501 :: C).length = l.length * 3 := by simp [hAl, hCl]; omega
    generalize hmid2 : (A ++ [iv kk, AV.own 1 true (ints F)]) ++ AV.ref 501 :: C = mid2 at *
    simp [hld2, hln2, hlt]
    refine ⟨by omega, ?_⟩
    refine ⟨_, _, markInt64S_spec true to1 (kk + 1 + from1.length) hj.2.1 (by omega) (by omega), ?_⟩
    simp
    subst hmid2
    generalize hT : upFrom (kk + 1 + (from1.length : Int)) to1.length = T at *
    refine WkK.mk (Weak.trans (weak_close (sz := 3) (s := 1) (nn' := true) (r := ints T) 1000000000 501 (A ++ [iv kk, AV.own 1 true (ints F)]) C (by simp [asO]) (by simp [asO]) (by omega) (nrfL_app hAn (by simp [nrfL, nrf])) hCn)
      (weak_mk (l' := [(0, .ref 1000000000), (1, iv (kk + 1 + from1.length + to1.length)), (5, iv i)]) (ol' := [(1000000000, .own 3 true ((A ++ [iv kk, AV.own 1 true (ints F)]) ++ AV.own 1 true (ints T) :: C))]) some (by simp) (by simp) rfl)) ?_
    simp [wrap_id ((i : Int) + 1) (by omega) (by omega)]
    refine Round.mk (i + 1) (weak_mk some (by simp [hend]) (by simp [hmk, hCd]) rfl) hlt (by omega)
  · obtain rfl : i = l.length := by omega
    simp
theorem totK_map (l : List JIn) : totK (l.map jof) = l.length + totJ l := by
  induction l with
  | nil => rfl
  | cons x l ih => simp [totK, totJ, ih, jof]; omega
def markedAsy (z : AsyV) (k : Int) : AsyV :=
  ⟨upFrom k z.places.length, upFrom (k + z.places.length) z.sizes.length, upFrom (k + z.places.length + z.sizes.length) z.start.length,
   markJ (k + z.places.length + z.sizes.length + z.start.length) z.joints, markRows (k + z.places.length + z.sizes.length + z.start.length + totK z.joints) z.final⟩
theorem markAsynchronousX (z : AsyV) (k : Int) (h : AsyOk z) (t0 : z.places.length + z.sizes.length + z.start.length ≤ 4194304) (t1 : totK z.joints ≤ 4194304) (t2 : total z.final ≤ 4194304) (h0 : 0 ≤ k) (h1 : k ≤ 1000) :
    ACalls2 Tryd.prog 18 [asyOw z, iv k] [asyOw (markedAsy z k), iv k] (iv (k + z.places.length + z.sizes.length + z.start.length + totK z.joints + total z.final)) := by
  obtain ⟨⟨o1, _⟩, ⟨o2, _⟩, ⟨o3, _⟩, ⟨o4, o5⟩, o6, o7⟩ := h
  have f1 := o1
  have f2 := o2
  have f3 := o3
  unfold Fits at f1 f2 f3
  refine walkO (fun t => t == 2008 || t == 2012 || t == 2016 || t == 2020 || t == 2024) mixed Go.Proofs.Tryd.func18 rfl rfl rfl (by kernel_rfl) (by simp) (by simp) (by simp) (by kernel_rfl) ?_
  simp
  refine ⟨_, _, markInt64S_spec true z.places k o1 (by omega) (by omega), ?_⟩
  simp
  refine ⟨_, _, markInt64S_spec true z.sizes (k + z.places.length) o2 (by omega) (by omega), ?_⟩
  simp
  refine ⟨_, _, markInt64S_spec true z.start (k + z.places.length + z.sizes.length) o3 (by omega) (by omega), ?_⟩
  simp
  refine ⟨_, _, markJointSL z.joints (k + z.places.length + z.sizes.length + z.start.length) o4 (fun j hj => (o5 j hj).2) (by omega) (by omega), ?_⟩
  simp
  refine ⟨_, _, markInt64SSL true true z.final (k + z.places.length + z.sizes.length + z.start.length + totK z.joints) ⟨o6, by omega, o7⟩ (by omega) (by omega), ?_⟩
  simp [markedAsy]
theorem markAsynchronousL (z : AsyI) (k : Int) (h : AsynchronousOk z) (h0 : 0 ≤ k) (h1 : k ≤ 1000) :
    ACalls2 Tryd.prog 18 [asyOw z.v, iv k] [asyOw (markedAsy z.v k), iv k] (iv (k + z.places.length + z.sizes.length + z.start.length + totK z.v.joints + total z.v.final)) := by
  obtain ⟨j, f, a, t1, t2, t0⟩ := h
  refine markAsynchronousX z.v k a (by simp only [AsyI.v]; omega) ?_ ?_ h0 h1
  · simp only [AsyI.v, totK_map]; have := j.1; omega
  · simp only [AsyI.v, total_totF]; omega
theorem asy_tot {z : AsyI} (h : AsynchronousOk z) : totK z.v.joints ≤ 4194304 ∧ total z.v.final ≤ 4194304 ∧ z.places.length + z.sizes.length + z.start.length ≤ 1048576 := by
  obtain ⟨j, f, a, t1, t2, t0⟩ := h
  refine ⟨?_, ?_, t0⟩
  · simp only [AsyI.v, totK_map]; have := j.1; omega
  · simp only [AsyI.v, total_totF]; omega
end Go.AM
