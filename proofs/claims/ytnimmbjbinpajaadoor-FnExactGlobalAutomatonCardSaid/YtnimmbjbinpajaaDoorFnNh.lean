/-
  Machines of states that are found from a first one: the program (printed by wip/gen/expl.py).
-/
import Derived.Test.YtnimmbjbinpajaaDoorFnNg
import Derived.Test.YtnimmbjbinpajaaDoorFnNf
set_option linter.unusedVariables false
set_option linter.unusedSimpArgs false
set_option linter.unusedSectionVars false
set_option maxRecDepth 100000
set_option maxHeartbeats 1600000
namespace Go.AM
open Go.Proofs
def IxS (K : List (List UInt8)) (mp : List (List UInt8 × Value)) : Prop := ∀ d, mp.lookup d = open Classical in if d ∈ K then some (.int .i64 (ixOf K d : Nat)) else none
theorem ixs_one (d : List UInt8) : IxS [d] [(d, .int .i64 0)] := by
  intro y
  by_cases e : y = d
  · subst e; simp [ixOf]
  · have : (y == d) = false := by simpa using e
    simp [List.lookup, this, e]
theorem ixs_put {K : List (List UInt8)} {mp : List (List UInt8 × Value)} (h : IxS K mp) {d : List UInt8} (hd : d ∉ K) : IxS (K ++ [d]) (putS d (.int .i64 (K.length : Nat)) mp) := by
  intro y
  rw [lookup_putS]
  by_cases e : y = d
  · subst e
    rw [if_pos rfl, if_pos (by simp)]
    congr 3
    have : ∀ (l : List (List UInt8)) x, x ∉ l → ixOf (l ++ [x]) x = l.length := by
      intro l x
      induction l with
      | nil => intro _; simp [ixOf]
      | cons y l ih =>
        intro hx
        simp only [List.cons_append, ixOf]
        rw [if_neg (fun e => hx (by simp [e])), ih fun h => hx (by simp [h])]; rfl
    rw [this _ _ hd]
  · rw [if_neg e, h y]
    by_cases e3 : y ∈ K
    · rw [if_pos e3, if_pos (by simp [e3]), ixOf_snoc e3]
    · rw [if_neg e3, if_neg (by simp [e3, e])]
@[reducible] noncomputable def expO {α : Type} (S : Sys α) (s : α) : AV := .agg [iv S.L, iv 0, .own 1 false (bls (expM S s).fin), .own 1 false (orows true (expM S s).next)]
theorem explored_b_spec (S : Sys Int) (h8 : S.L ≤ 8) (Dm : Int → Prop) (B : Nat) (hB : B ≤ 65536) (hD : DomOk S Dm B) (start : Int) (hst : Dm start) (g : FuncId) (gs : List AV)
    (hA : ∀ s a, Dm s → a < S.L → ACalls1 Tryd.prog g (gs ++ [iv s, iv a]) (.tup [iv (S.nx s a), bv (S.ok s a)])) (g2 : FuncId) (caps2 : List AV) (hF : ∀ s, Dm s → ACalls1 Tryd.prog g2 (iv s :: caps2) (bv (S.fin s))) :
    ACalls1 Tryd.prog 107 [iv S.L, iv start, iv 1073741824, .fb g gs, .fn g2 caps2] (.tup [expO S start, bv true]) := by
  refine walk (fun t => t == 1077) mixed Go.Proofs.Tryd.func107 rfl rfl rfl (by kernel_rfl) rfl (by simp) (by kernel_rfl) ?_
  simp
  repeat (rw [exE_eq]; simp)
  repeat (refine And.intro (by first | omega | exact ⟨by kernel_rfl, by kernel_rfl⟩) ?_)
  have hE := fun i => eIter_ok hD hst i
  have hEl := fun i => eIter_len hD hst i
  refine awp_loop2 [0, 2, 3, 4, 10, 13, 14] [10] (fun s : Nat × List (Int × Value) => [(15, iv s.1), (12, .ref 302)]) (fun s => [(14, .box [iv S.L, iv 0, .ref 300, .ref 301]), (300, .own 1 false (bls (((eIter S start s.1).1.take s.1).map S.fin))), (301, .own 1 false (orows true (eIter S start s.1).2)), (302, .own 1 true (ints (eIter S start s.1).1)), (24, .mp (mI s.2))]) (fun s => s.1 ≤ (eIter S start s.1).1.length ∧ IxOk (eIter S start s.1).1 s.2) (fun s => B + 1 - s.1) (0, [(start, .int .i64 0)]) (weak_mk (fun t => if t = 300 then none else if t = 301 then none else if t = 302 then some 23 else some t) (by simp) (by simp [eIter, mI, ints]) rfl) ⟨by simp, by simpa [eIter] using ix_one start⟩ ?_
  rintro ⟨i, mp⟩ ⟨hi, hmp⟩
  simp only at hi hmp
  have hEi := hE i
  have hM1 := hEi.el
  have hM4 := hEi.le
  have hMl := hEl i
  have hsucc := eIter_succ S start i
  have hEs := hEl (i + 1)
  by_cases hlt : i < (eIter S start i).1.length
  · rw [if_pos hlt] at hsucc
    have hmem : (eIter S start i).1.getD i start ∈ (eIter S start i).1 := by rw [getD_lt hlt]; exact List.getElem_mem hlt
    have hsD := hM1.d _ hmem
    have hFs := hF _ hsD
    have hAs := fun a ha => hA _ a hsD ha
    have hRow := fun k hk => eRow_ok hD hsD hM1 k hk
    have hRs := fun k => eRow_succ S ((eIter S start i).1.getD i start) (eIter S start i).1 k
    have hns : nth (eIter S start i).1 i = (eIter S start i).1.getD i start := by rw [nth_at hlt, getD_lt hlt]
    have hR0 := eRow_zero S ((eIter S start i).1.getD i start) (eIter S start i).1
    rw [hsucc] at hEs
    simp only at hEs
    generalize hq : eIter S start i = q at *
    generalize hsx : q.1.getD i start = s at *
    simp [hlt]
    refine awp_loop2 [0, 2, 3, 4, 10, 13, 14, 15, 36] [10, 14, 300, 301] (fun k : Nat × List (Int × Value) => [(37, iv k.1), (16, .ref 303), (12, .ref 302)]) (fun k => [(303, .own 1 true (ints (eRow S s q.1 k.1).2)), (302, .own 1 true (ints (eRow S s q.1 k.1).1)), (24, .mp (mI k.2))]) (fun k => k.1 ≤ S.L ∧ IxOk (eRow S s q.1 k.1).1 k.2) (fun k => S.L - k.1) (0, mp) (weak_mk (fun t => if t = 303 then some 35 else some t) (by simp) (by simp [hR0, ints]) rfl) ⟨by simp, by rw [hR0]; exact hmp⟩ ?_
    rintro ⟨k, mp⟩ ⟨hk, hmp⟩
    simp only at hk hmp
    obtain ⟨k1, ⟨t, k2⟩, k3, _⟩ := hRow k hk
    have kl := hD.sz _ k1.nd k1.d
    by_cases hkl : k < S.L
    · have hstep := hRs k
      unfold eStep at hstep
      have hpi : nth (eRow S s q.1 k).1 i = s := by
        rw [k2, ← hns]
        unfold nth
        exact getD_append hlt
      generalize eRow S s q.1 k = p at *
      have hil : i < p.1.length := by rw [k2]; simp; omega
      simp [hkl, hil, hpi, show i + 1 ≤ p.1.length from hil]
      refine ⟨_, hAs k hkl, ?_⟩
      have hlk := hmp (S.nx s k)
      have hput := ix_put hmp (d := S.nx s k)
      cases hok : S.ok s k
      · rw [hok] at hstep
        simp only [Bool.false_eq_true, if_false] at hstep
        simp
        repeat (refine And.intro (by omega) ?_)
        simp only [wrap_id ((k : Int) + 1) (by omega) (by omega)]
        exact Round.mk (k + 1, mp) (weak_mk (fun t => if t = 303 then some 54 else some t) (by simp [hstep]) (by simp [hstep]) rfl) ⟨hkl, by rw [hstep]; exact hmp⟩ (by simp only; omega)
      · rw [hok] at hstep
        simp only [if_true] at hstep
        by_cases hmm : S.nx s k ∈ p.1
        · rw [if_pos hmm] at hstep hlk
          simp [hlk]
          repeat (refine And.intro (by omega) ?_)
          simp only [wrap_id ((k : Int) + 1) (by omega) (by omega)]
          exact Round.mk (k + 1, mp) (weak_mk (fun t => if t = 303 then some 75 else some t) (by simp [hstep]) (by simp [hstep]) rfl) ⟨hkl, by rw [hstep]; exact hmp⟩ (by simp only; omega)
        · rw [if_neg hmm] at hstep hlk
          have hput := hput hmm
          simp [hlk]
          repeat (refine And.intro (by omega) ?_)
          simp only [wrap_id ((k : Int) + 1) (by omega) (by omega)]
          exact Round.mk (k + 1, putI (S.nx s k) (.int .i64 (p.1.length : Nat)) mp) (weak_mk (fun t => if t = 303 then some 75 else if t = 302 then some 71 else some t) (by simp [hstep]) (by simp [hstep]) rfl) ⟨hkl, by rw [hstep]; exact hput⟩ (by simp only; omega)
    · obtain rfl : k = S.L := by omega
      have hpi : nth (eRow S s q.1 S.L).1 i = s := by
        rw [k2, ← hns]
        unfold nth
        exact getD_append hlt
      have hff : ((eRow S s q.1 S.L).1.map S.fin).take (i + 1) = (q.1.map S.fin).take i ++ [S.fin s] := by
        rw [k2, List.map_append, List.take_append_of_le_length (by simp; omega), List.take_succ_eq_append_getElem (by simpa using hlt)]
        congr 1
        rw [List.getElem_map, ← hsx, getD_lt hlt]
      generalize eRow S s q.1 S.L = p at *
      have hil : i < p.1.length := by rw [k2]; simp; omega
      have hmin : min i q.1.length = i := by omega
      simp [hlt, hil, hpi, hmin, show i + 1 ≤ p.1.length from hil]
      repeat (rw [exE_eq]; simp [hlt, hil, hpi, hmin, show i + 1 ≤ p.1.length from hil])
      repeat (refine And.intro (by omega) ?_)
      refine ⟨_, hFs, ?_⟩
      simp
      repeat (refine And.intro (by omega) ?_)
      first | refine ⟨⟨by kernel_rfl, by kernel_rfl⟩, ?_⟩ | exact ⟨by kernel_rfl, by kernel_rfl⟩
      have hbig : ¬ (1073741824 : Int) < (p.1.length : Int) := by omega
      have hbig2 : ((p.1.length : Nat) : Int) ≤ 1073741824 := by omega
      simp only [wrap_id ((i : Int) + 1) (by omega) (by omega)]
      simp [hbig, hbig2]
      try simp only [wrap_id ((i : Int) + 1) (by omega) (by omega)]
      exact Round.mk (i + 1, mp) (weak_mk (fun t => if t = 300 then some 91 else if t = 301 then some 81 else some t) (by simp) (by simp [hsucc, hff]) rfl) ⟨by simp only [hsucc]; omega, by rw [hsucc]; exact hmp⟩ (by simp only; omega)
  · have hend : (eIter S start i).1.length = i := by omega
    have hce := expP_eq S start hend
    simp [hlt, expM, hce]
    left
    rw [List.take_of_length_le (by simp; omega)]
    exact .refl _
theorem explored_i_spec (S : Sys Int) (h8 : S.L ≤ 8) (Dm : Int → Prop) (B : Nat) (hB : B ≤ 65536) (hD : DomOk S Dm B) (start : Int) (hst : Dm start) (g : FuncId) (gs : List AV)
    (hA : ∀ s a, Dm s → a < S.L → ACalls1 Tryd.prog g (iv s :: iv a :: gs) (.tup [iv (S.nx s a), bv (S.ok s a)])) (g2 : FuncId) (caps2 : List AV) (hF : ∀ s, Dm s → ACalls1 Tryd.prog g2 (iv s :: caps2) (bv (S.fin s))) :
    ACalls1 Tryd.prog 107 [iv S.L, iv start, iv 1073741824, .fn g gs, .fn g2 caps2] (.tup [expO S start, bv true]) := by
  refine walk (fun t => t == 1077) mixed Go.Proofs.Tryd.func107 rfl rfl rfl (by kernel_rfl) rfl (by simp) (by kernel_rfl) ?_
  simp
  repeat (rw [exE_eq]; simp)
  repeat (refine And.intro (by first | omega | exact ⟨by kernel_rfl, by kernel_rfl⟩) ?_)
  have hE := fun i => eIter_ok hD hst i
  have hEl := fun i => eIter_len hD hst i
  refine awp_loop2 [0, 2, 3, 4, 10, 13, 14] [10] (fun s : Nat × List (Int × Value) => [(15, iv s.1), (12, .ref 302)]) (fun s => [(14, .box [iv S.L, iv 0, .ref 300, .ref 301]), (300, .own 1 false (bls (((eIter S start s.1).1.take s.1).map S.fin))), (301, .own 1 false (orows true (eIter S start s.1).2)), (302, .own 1 true (ints (eIter S start s.1).1)), (24, .mp (mI s.2))]) (fun s => s.1 ≤ (eIter S start s.1).1.length ∧ IxOk (eIter S start s.1).1 s.2) (fun s => B + 1 - s.1) (0, [(start, .int .i64 0)]) (weak_mk (fun t => if t = 300 then none else if t = 301 then none else if t = 302 then some 23 else some t) (by simp) (by simp [eIter, mI, ints]) rfl) ⟨by simp, by simpa [eIter] using ix_one start⟩ ?_
  rintro ⟨i, mp⟩ ⟨hi, hmp⟩
  simp only at hi hmp
  have hEi := hE i
  have hM1 := hEi.el
  have hM4 := hEi.le
  have hMl := hEl i
  have hsucc := eIter_succ S start i
  have hEs := hEl (i + 1)
  by_cases hlt : i < (eIter S start i).1.length
  · rw [if_pos hlt] at hsucc
    have hmem : (eIter S start i).1.getD i start ∈ (eIter S start i).1 := by rw [getD_lt hlt]; exact List.getElem_mem hlt
    have hsD := hM1.d _ hmem
    have hFs := hF _ hsD
    have hAs := fun a ha => hA _ a hsD ha
    have hRow := fun k hk => eRow_ok hD hsD hM1 k hk
    have hRs := fun k => eRow_succ S ((eIter S start i).1.getD i start) (eIter S start i).1 k
    have hns : nth (eIter S start i).1 i = (eIter S start i).1.getD i start := by rw [nth_at hlt, getD_lt hlt]
    have hR0 := eRow_zero S ((eIter S start i).1.getD i start) (eIter S start i).1
    rw [hsucc] at hEs
    simp only at hEs
    generalize hq : eIter S start i = q at *
    generalize hsx : q.1.getD i start = s at *
    simp [hlt]
    refine awp_loop2 [0, 2, 3, 4, 10, 13, 14, 15, 36] [10, 14, 300, 301] (fun k : Nat × List (Int × Value) => [(37, iv k.1), (16, .ref 303), (12, .ref 302)]) (fun k => [(303, .own 1 true (ints (eRow S s q.1 k.1).2)), (302, .own 1 true (ints (eRow S s q.1 k.1).1)), (24, .mp (mI k.2))]) (fun k => k.1 ≤ S.L ∧ IxOk (eRow S s q.1 k.1).1 k.2) (fun k => S.L - k.1) (0, mp) (weak_mk (fun t => if t = 303 then some 35 else some t) (by simp) (by simp [hR0, ints]) rfl) ⟨by simp, by rw [hR0]; exact hmp⟩ ?_
    rintro ⟨k, mp⟩ ⟨hk, hmp⟩
    simp only at hk hmp
    obtain ⟨k1, ⟨t, k2⟩, k3, _⟩ := hRow k hk
    have kl := hD.sz _ k1.nd k1.d
    by_cases hkl : k < S.L
    · have hstep := hRs k
      unfold eStep at hstep
      have hpi : nth (eRow S s q.1 k).1 i = s := by
        rw [k2, ← hns]
        unfold nth
        exact getD_append hlt
      generalize eRow S s q.1 k = p at *
      have hil : i < p.1.length := by rw [k2]; simp; omega
      simp [hkl, hil, hpi, show i + 1 ≤ p.1.length from hil]
      refine ⟨_, hAs k hkl, ?_⟩
      have hlk := hmp (S.nx s k)
      have hput := ix_put hmp (d := S.nx s k)
      cases hok : S.ok s k
      · rw [hok] at hstep
        simp only [Bool.false_eq_true, if_false] at hstep
        simp
        repeat (refine And.intro (by omega) ?_)
        simp only [wrap_id ((k : Int) + 1) (by omega) (by omega)]
        exact Round.mk (k + 1, mp) (weak_mk (fun t => if t = 303 then some 54 else some t) (by simp [hstep]) (by simp [hstep]) rfl) ⟨hkl, by rw [hstep]; exact hmp⟩ (by simp only; omega)
      · rw [hok] at hstep
        simp only [if_true] at hstep
        by_cases hmm : S.nx s k ∈ p.1
        · rw [if_pos hmm] at hstep hlk
          simp [hlk]
          repeat (refine And.intro (by omega) ?_)
          simp only [wrap_id ((k : Int) + 1) (by omega) (by omega)]
          exact Round.mk (k + 1, mp) (weak_mk (fun t => if t = 303 then some 75 else some t) (by simp [hstep]) (by simp [hstep]) rfl) ⟨hkl, by rw [hstep]; exact hmp⟩ (by simp only; omega)
        · rw [if_neg hmm] at hstep hlk
          have hput := hput hmm
          simp [hlk]
          repeat (refine And.intro (by omega) ?_)
          simp only [wrap_id ((k : Int) + 1) (by omega) (by omega)]
          exact Round.mk (k + 1, putI (S.nx s k) (.int .i64 (p.1.length : Nat)) mp) (weak_mk (fun t => if t = 303 then some 75 else if t = 302 then some 71 else some t) (by simp [hstep]) (by simp [hstep]) rfl) ⟨hkl, by rw [hstep]; exact hput⟩ (by simp only; omega)
    · obtain rfl : k = S.L := by omega
      have hpi : nth (eRow S s q.1 S.L).1 i = s := by
        rw [k2, ← hns]
        unfold nth
        exact getD_append hlt
      have hff : ((eRow S s q.1 S.L).1.map S.fin).take (i + 1) = (q.1.map S.fin).take i ++ [S.fin s] := by
        rw [k2, List.map_append, List.take_append_of_le_length (by simp; omega), List.take_succ_eq_append_getElem (by simpa using hlt)]
        congr 1
        rw [List.getElem_map, ← hsx, getD_lt hlt]
      generalize eRow S s q.1 S.L = p at *
      have hil : i < p.1.length := by rw [k2]; simp; omega
      have hmin : min i q.1.length = i := by omega
      simp [hlt, hil, hpi, hmin, show i + 1 ≤ p.1.length from hil]
      repeat (rw [exE_eq]; simp [hlt, hil, hpi, hmin, show i + 1 ≤ p.1.length from hil])
      repeat (refine And.intro (by omega) ?_)
      refine ⟨_, hFs, ?_⟩
      simp
      repeat (refine And.intro (by omega) ?_)
      first | refine ⟨⟨by kernel_rfl, by kernel_rfl⟩, ?_⟩ | exact ⟨by kernel_rfl, by kernel_rfl⟩
      have hbig : ¬ (1073741824 : Int) < (p.1.length : Int) := by omega
      have hbig2 : ((p.1.length : Nat) : Int) ≤ 1073741824 := by omega
      simp only [wrap_id ((i : Int) + 1) (by omega) (by omega)]
      simp [hbig, hbig2]
      try simp only [wrap_id ((i : Int) + 1) (by omega) (by omega)]
      exact Round.mk (i + 1, mp) (weak_mk (fun t => if t = 300 then some 91 else if t = 301 then some 81 else some t) (by simp) (by simp [hsucc, hff]) rfl) ⟨by simp only [hsucc]; omega, by rw [hsucc]; exact hmp⟩ (by simp only; omega)
  · have hend : (eIter S start i).1.length = i := by omega
    have hce := expP_eq S start hend
    simp [hlt, expM, hce]
    left
    rw [List.take_of_length_le (by simp; omega)]
    exact .refl _
theorem explored_s_spec (S : Sys (List UInt8)) (h8 : S.L ≤ 8) (Dm : (List UInt8) → Prop) (B : Nat) (hB : B ≤ 65536) (hD : DomOk S Dm B) (start : (List UInt8)) (hst : Dm start) (g : FuncId) (gs : List AV)
    (hA : ∀ s a, Dm s → a < S.L → ACalls1 Tryd.prog g (AV.val (.string (strU s)) :: iv a :: gs) (.tup [AV.val (.string (strU (S.nx s a))), bv (S.ok s a)])) (g2 : FuncId) (caps2 : List AV) (hF : ∀ s, Dm s → ACalls1 Tryd.prog g2 (AV.val (.string (strU s)) :: caps2) (bv (S.fin s))) :
    ACalls1 Tryd.prog 56 [iv S.L, AV.val (.string (strU start)), iv 1073741824, .fn g gs, .fn g2 caps2] (.tup [expO S start, bv true]) := by
  refine walk (fun t => t == 1077) mixed Go.Proofs.Tryd.func56 rfl rfl rfl (by kernel_rfl) rfl (by simp) (by kernel_rfl) ?_
  simp
  repeat (rw [exE_eq]; simp)
  repeat (refine And.intro (by first | omega | exact ⟨by kernel_rfl, by kernel_rfl⟩) ?_)
  have hE := fun i => eIter_ok hD hst i
  have hEl := fun i => eIter_len hD hst i
  refine awp_loop2 [0, 2, 3, 4, 10, 13, 14] [10] (fun s : Nat × List (List UInt8 × Value) => [(15, iv s.1), (12, .ref 302)]) (fun s => [(14, .box [iv S.L, iv 0, .ref 300, .ref 301]), (300, .own 1 false (bls (((eIter S start s.1).1.take s.1).map S.fin))), (301, .own 1 false (orows true (eIter S start s.1).2)), (302, .own 1 true (txs (eIter S start s.1).1)), (24, .mp (mS s.2))]) (fun s => s.1 ≤ (eIter S start s.1).1.length ∧ IxS (eIter S start s.1).1 s.2) (fun s => B + 1 - s.1) (0, [(start, .int .i64 0)]) (weak_mk (fun t => if t = 300 then none else if t = 301 then none else if t = 302 then some 23 else some t) (by simp) (by simp [eIter, mS, txs]) rfl) ⟨by simp, by simpa [eIter] using ixs_one start⟩ ?_
  rintro ⟨i, mp⟩ ⟨hi, hmp⟩
  simp only at hi hmp
  have hEi := hE i
  have hM1 := hEi.el
  have hM4 := hEi.le
  have hMl := hEl i
  have hsucc := eIter_succ S start i
  have hEs := hEl (i + 1)
  by_cases hlt : i < (eIter S start i).1.length
  · rw [if_pos hlt] at hsucc
    have hmem : (eIter S start i).1.getD i start ∈ (eIter S start i).1 := by rw [getD_lt hlt]; exact List.getElem_mem hlt
    have hsD := hM1.d _ hmem
    have hFs := hF _ hsD
    have hAs := fun a ha => hA _ a hsD ha
    have hRow := fun k hk => eRow_ok hD hsD hM1 k hk
    have hRs := fun k => eRow_succ S ((eIter S start i).1.getD i start) (eIter S start i).1 k
    have hns : sAt (eIter S start i).1 i = (eIter S start i).1.getD i start := by rw [sAt_at hlt, getD_lt hlt]
    have hR0 := eRow_zero S ((eIter S start i).1.getD i start) (eIter S start i).1
    rw [hsucc] at hEs
    simp only at hEs
    generalize hq : eIter S start i = q at *
    generalize hsx : q.1.getD i start = s at *
    simp [hlt]
    refine awp_loop2 [0, 2, 3, 4, 10, 13, 14, 15, 36] [10, 14, 300, 301] (fun k : Nat × List (List UInt8 × Value) => [(37, iv k.1), (16, .ref 303), (12, .ref 302)]) (fun k => [(303, .own 1 true (ints (eRow S s q.1 k.1).2)), (302, .own 1 true (txs (eRow S s q.1 k.1).1)), (24, .mp (mS k.2))]) (fun k => k.1 ≤ S.L ∧ IxS (eRow S s q.1 k.1).1 k.2) (fun k => S.L - k.1) (0, mp) (weak_mk (fun t => if t = 303 then some 35 else some t) (by simp) (by simp [hR0, ints]) rfl) ⟨by simp, by rw [hR0]; exact hmp⟩ ?_
    rintro ⟨k, mp⟩ ⟨hk, hmp⟩
    simp only at hk hmp
    obtain ⟨k1, ⟨t, k2⟩, k3, _⟩ := hRow k hk
    have kl := hD.sz _ k1.nd k1.d
    by_cases hkl : k < S.L
    · have hstep := hRs k
      unfold eStep at hstep
      have hpi : sAt (eRow S s q.1 k).1 i = s := by
        rw [k2, ← hns]
        unfold sAt
        exact getD_append hlt
      generalize eRow S s q.1 k = p at *
      have hil : i < p.1.length := by rw [k2]; simp; omega
      simp [hkl, hil, hpi, show i + 1 ≤ p.1.length from hil]
      refine ⟨_, hAs k hkl, ?_⟩
      have hlk := hmp (S.nx s k)
      have hput := ixs_put hmp (d := S.nx s k)
      cases hok : S.ok s k
      · rw [hok] at hstep
        simp only [Bool.false_eq_true, if_false] at hstep
        simp
        repeat (refine And.intro (by omega) ?_)
        simp only [wrap_id ((k : Int) + 1) (by omega) (by omega)]
        exact Round.mk (k + 1, mp) (weak_mk (fun t => if t = 303 then some 54 else some t) (by simp [hstep]) (by simp [hstep]) rfl) ⟨hkl, by rw [hstep]; exact hmp⟩ (by simp only; omega)
      · rw [hok] at hstep
        simp only [if_true] at hstep
        by_cases hmm : S.nx s k ∈ p.1
        · rw [if_pos hmm] at hstep hlk
          simp [hlk]
          repeat (refine And.intro (by omega) ?_)
          simp only [wrap_id ((k : Int) + 1) (by omega) (by omega)]
          exact Round.mk (k + 1, mp) (weak_mk (fun t => if t = 303 then some 75 else some t) (by simp [hstep]) (by simp [hstep]) rfl) ⟨hkl, by rw [hstep]; exact hmp⟩ (by simp only; omega)
        · rw [if_neg hmm] at hstep hlk
          have hput := hput hmm
          simp [hlk]
          repeat (refine And.intro (by omega) ?_)
          simp only [wrap_id ((k : Int) + 1) (by omega) (by omega)]
          exact Round.mk (k + 1, putS (S.nx s k) (.int .i64 (p.1.length : Nat)) mp) (weak_mk (fun t => if t = 303 then some 75 else if t = 302 then some 71 else some t) (by simp [hstep]) (by simp [hstep]) rfl) ⟨hkl, by rw [hstep]; exact hput⟩ (by simp only; omega)
    · obtain rfl : k = S.L := by omega
      have hpi : sAt (eRow S s q.1 S.L).1 i = s := by
        rw [k2, ← hns]
        unfold sAt
        exact getD_append hlt
      have hff : ((eRow S s q.1 S.L).1.map S.fin).take (i + 1) = (q.1.map S.fin).take i ++ [S.fin s] := by
        rw [k2, List.map_append, List.take_append_of_le_length (by simp; omega), List.take_succ_eq_append_getElem (by simpa using hlt)]
        congr 1
        rw [List.getElem_map, ← hsx, getD_lt hlt]
      generalize eRow S s q.1 S.L = p at *
      have hil : i < p.1.length := by rw [k2]; simp; omega
      have hmin : min i q.1.length = i := by omega
      simp [hlt, hil, hpi, hmin, show i + 1 ≤ p.1.length from hil]
      repeat (rw [exE_eq]; simp [hlt, hil, hpi, hmin, show i + 1 ≤ p.1.length from hil])
      repeat (refine And.intro (by omega) ?_)
      refine ⟨_, hFs, ?_⟩
      simp
      repeat (refine And.intro (by omega) ?_)
      first | refine ⟨⟨by kernel_rfl, by kernel_rfl⟩, ?_⟩ | exact ⟨by kernel_rfl, by kernel_rfl⟩
      have hbig : ¬ (1073741824 : Int) < (p.1.length : Int) := by omega
      have hbig2 : ((p.1.length : Nat) : Int) ≤ 1073741824 := by omega
      simp only [wrap_id ((i : Int) + 1) (by omega) (by omega)]
      simp [hbig, hbig2]
      try simp only [wrap_id ((i : Int) + 1) (by omega) (by omega)]
      exact Round.mk (i + 1, mp) (weak_mk (fun t => if t = 300 then some 91 else if t = 301 then some 81 else some t) (by simp) (by simp [hsucc, hff]) rfl) ⟨by simp only [hsucc]; omega, by rw [hsucc]; exact hmp⟩ (by simp only; omega)
  · have hend : (eIter S start i).1.length = i := by omega
    have hce := expP_eq S start hend
    simp [hlt, expM, hce]
    left
    rw [List.take_of_length_le (by simp; omega)]
    exact .refl _
end Go.AM
