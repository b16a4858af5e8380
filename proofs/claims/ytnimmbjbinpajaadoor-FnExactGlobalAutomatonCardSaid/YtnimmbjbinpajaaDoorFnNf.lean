/-
  Machines: the minimal machine.
-/
import Derived.Test.YtnimmbjbinpajaaDoorFnNe
import Derived.Test.YtnimmbjbinpajaaDoorAmWk
set_option linter.unusedVariables false
set_option linter.unusedSimpArgs false
set_option linter.unusedSectionVars false
set_option maxRecDepth 100000
set_option maxHeartbeats 1600000
namespace Go.AM
open Go.Proofs
open Classical in
noncomputable def canonOf (L : Nat) (l : Lang) : List (List Int) × List Bool := if h : ∃ p : List (List Int) × List Bool, IsCanon L l p.1 p.2 then Classical.choose h else ([], [])
theorem canonOf_eq {L : Nat} {l : Lang} {rows : List (List Int)} {fins : List Bool} (h : IsCanon L l rows fins) : canonOf L l = (rows, fins) := by
  have hex : ∃ p : List (List Int) × List Bool, IsCanon L l p.1 p.2 := ⟨(rows, fins), h⟩
  unfold canonOf
  rw [dif_pos hex]
  have h2 := canon_one (Classical.choose_spec hex) h
  exact Prod.ext h2.1 h2.2
/-- The canonical machine. -/
noncomputable def canM (L : Nat) (l : Lang) : MchV := ⟨L, (canonOf L l).2, (canonOf L l).1⟩
/-- Places of the classes that are met. -/
def IxOk (K : List Int) (mp : List (Int × Value)) : Prop := ∀ d, mp.lookup d = open Classical in if d ∈ K then some (.int .i64 (ixOf K d : Nat)) else none
theorem ix_one (d : Int) : IxOk [d] [(d, .int .i64 0)] := by
  intro y
  by_cases e : y = d
  · subst e; simp [ixOf]
  · have : (y == d) = false := by simpa using e
    simp [List.lookup, this, e]
theorem ix_put {K : List Int} {mp : List (Int × Value)} (h : IxOk K mp) {d : Int} (hd : d ∉ K) : IxOk (K ++ [d]) (putI d (.int .i64 (K.length : Nat)) mp) := by
  intro y
  rw [lookup_putI]
  by_cases e : y = d
  · subst e
    rw [if_pos rfl, if_pos (by simp)]
    congr 3
    have : ∀ (l : List Int) x, x ∉ l → ixOf (l ++ [x]) x = l.length := by
      intro l x
      induction l with
      | nil => intro _; simp [ixOf]
      | cons y l ih =>
        intro hx
        simp only [List.cons_append, ixOf]
        rw [if_neg (fun e => hx (by simp [e])), ih fun h => hx (by simp [h])]; rfl
    rw [this _ _ hd]
  · rw [if_neg e, h y]
    by_cases e3 : y ∈ K
    · rw [if_pos e3, if_pos (by simp [e3]), ixOf_snoc e3]
    · rw [if_neg e3, if_neg (by simp [e3, e])]
@[reducible] noncomputable def canO (L : Nat) (l : Lang) : AV := .agg [iv L, iv 0, .own 1 false (bls (canM L l).fin), .own 1 false (orows true (canM L l).next)]
theorem minimal_spec (a b c : Bool) (m : MchV) (hm : MchOk m) (hn : m.next.length ≤ 65535) (h8 : m.letters ≤ 8) (start : Nat) (hs : start < m.next.length) (hN : Void (langV m start) → ACalls1 Tryd.prog 113 [iv m.letters] (canO m.letters (langV m start))) :
    ACalls1 Tryd.prog 45 [machA a b c m start] (canO m.letters (langV m start)) := by
  refine walk (fun t => t == 1 || t == 7015 || t == 6014 || t == 7027 || t == 1028 || t == 1104) mixed Go.Proofs.Tryd.func45 rfl rfl rfl (by kernel_rfl) rfl (by simp) (by kernel_rfl) ?_
  simp
  refine ⟨_, useful_spec a b c m hm hn h8 start hs, ?_⟩
  rintro _ _ ⟨rfl, u, R, hu, rfl⟩
  have hul := hu.len
  simp [hul, hs, show start + 1 ≤ m.next.length from hs]
  refine WkK.mk (weak_frz 15 rfl (by simp)) ?_
  cases hb : bAt u start
  · have hv : Void (langV m start) := Classical.byContradiction fun h => by
      have := (hu.iff start hs).2 ⟨hu.st, h⟩
      rw [hb] at this; cases this
    simp [hb]
    repeat (refine And.intro (by omega) ?_)
    refine ⟨_, hN hv, ?_⟩
    simp
  · simp [hb]
    repeat (refine And.intro (by omega) ?_)
    refine ⟨_, classes_spec a b c true m hm hn h8 start hs u R hu hb, ?_⟩
    rintro _ _ ⟨rfl, cl, hcl, hcls, hclb, rfl⟩
    simp [hcl, hs, show start + 1 ≤ m.next.length from hs]
    repeat (rw [exE_eq]; simp [hcl, hs, show start + 1 ≤ m.next.length from hs])
    first | refine ⟨⟨by kernel_rfl, by kernel_rfl⟩, ?_⟩ | exact ⟨by kernel_rfl, by kernel_rfl⟩
    have hRs := hu.st
    have hstart : ((start : Nat) : Int).toNat = start := rfl
    have hcx : clX cl (start : Int) = nth cl start := by unfold clX; rw [if_neg (by omega), hstart]
    have hMI := fun i => mIter_ok hcls (start := (start : Int)) (by omega) (by rw [hstart]; exact hRs) i
    refine awp_loop2 [1, 2, 4, 5, 7] [2, 27] (fun s : Nat × List (Int × Value) => [(8, iv s.1), (6, .ref 302)]) (fun s => [(7, .box [iv m.letters, iv 0, .ref 300, .ref 301]), (300, .own 1 false (bls (((mIter cl m start s.1).1.take s.1).map (finV m)))), (301, .own 1 false (orows true (mIter cl m start s.1).2)), (302, .own 1 true (ints (mIter cl m start s.1).1)), (28, .mp (mI s.2))]) (fun s => s.1 ≤ (mIter cl m start s.1).1.length ∧ IxOk ((mIter cl m start s.1).1.map (clX cl)) s.2) (fun s => m.next.length + 1 - s.1) (0, [(nth cl start, .int .i64 0)]) (weak_mk (fun t => if t = 300 then none else if t = 301 then none else if t = 302 then some 37 else some t) (by simp) (by simp [mIter, mI, ints]) rfl) ⟨by simp, by simpa [mIter, hcx] using ix_one (nth cl start)⟩ ?_
    rintro ⟨i, mp⟩ ⟨hi, hmp⟩
    simp only at hi hmp
    obtain ⟨hM1, hM2, hM3, hM4⟩ := hMI i
    have hMl := mItOk_len hcls hM1
    have hsucc : mIter cl m start (i + 1) = if i < (mIter cl m start i).1.length then ((mRow cl m (nth (mIter cl m start i).1 i).toNat (mIter cl m start i).1 m.letters).1, (mIter cl m start i).2 ++ [(mRow cl m (nth (mIter cl m start i).1 i).toNat (mIter cl m start i).1 m.letters).2]) else mIter cl m start i := rfl
    by_cases hlt : i < (mIter cl m start i).1.length
    · rw [if_pos hlt] at hsucc
      have hmem : nth (mIter cl m start i).1 i ∈ (mIter cl m start i).1 := by rw [nth_at hlt]; exact List.getElem_mem hlt
      obtain ⟨hs0, hsR⟩ := hM1.r _ hmem
      have hsn := hcls.lt _ hsR
      have hrl := hm.rl _ hsn
      have hRow := fun k hk => mRow_ok hcls hsR hM1 k hk
      have hRs := fun k => mRow_succ cl m (nth (mIter cl m start i).1 i).toNat (mIter cl m start i).1 k
      have hR0 : mRow cl m (nth (mIter cl m start i).1 i).toNat (mIter cl m start i).1 0 = ((mIter cl m start i).1, []) := rfl
      have hns : nth (mIter cl m start i).1 i = (((nth (mIter cl m start i).1 i).toNat : Nat) : Int) := by omega
      generalize hq : mIter cl m start i = q at *
      generalize hsx : (nth q.1 i).toNat = s at *
      simp [hlt]
      refine awp_loop2 [1, 2, 4, 5, 7, 8, 49] [2, 27, 7, 300, 301] (fun k : Nat × List (Int × Value) => [(50, iv k.1), (9, .ref 303), (6, .ref 302)]) (fun k => [(303, .own 1 true (ints (mRow cl m s q.1 k.1).2)), (302, .own 1 true (ints (mRow cl m s q.1 k.1).1)), (28, .mp (mI k.2))]) (fun k => k.1 ≤ m.letters ∧ IxOk ((mRow cl m s q.1 k.1).1.map (clX cl)) k.2) (fun k => m.letters - k.1) (0, mp) (weak_mk (fun t => if t = 303 then some 47 else some t) (by simp) (by simp [hR0, ints]) rfl) ⟨by simp, by rw [hR0]; exact hmp⟩ ?_
      rintro ⟨k, mp⟩ ⟨hk, hmp⟩
      simp only at hk hmp
      obtain ⟨k1, ⟨t, k2⟩, k3, k4, _, _, k7⟩ := hRow k hk
      have kl := mItOk_len hcls k1
      by_cases hkl : k < m.letters
      · have hgo := hm.rr s hsn k hkl
        have hgv : nth (nthR m.next s) k = goV m s k := rfl
        have hstep := hRs k
        unfold mStep at hstep
        have hpi : nth (mRow cl m s q.1 k).1 i = s := by
          rw [k2]
          unfold nth
          rw [getD_append hlt]
          exact hns
        generalize hge : goV m s k = g at *
        generalize mRow cl m s q.1 k = p at *
        have hil : i < p.1.length := by rw [k2]; simp; omega
        simp [hkl, hil, hpi, hsn, hrl, hgv, show i + 1 ≤ p.1.length from hil, show s + 1 ≤ m.next.length from hsn]
        repeat (rw [exE_eq]; simp [hkl, hil, hpi, hsn, hrl, hgv, show i + 1 ≤ p.1.length from hil, show s + 1 ≤ m.next.length from hsn])
        have hlk := hmp (clX cl g)
        have hput := ix_put hmp (d := clX cl g)
        by_cases hneg : clX cl g < 0
        · rw [if_pos hneg] at hstep
          by_cases hg0 : g < 0
          · simp [hg0]
            repeat (refine And.intro (by omega) ?_)
            simp only [wrap_id ((k : Int) + 1) (by omega) (by omega)]
            exact Round.mk (k + 1, mp) (weak_mk (fun t => if t = 303 then some 75 else some t) (by simp [hstep]) (by simp [hstep]) rfl) ⟨hkl, by rw [hstep]; exact hmp⟩ (by simp only; omega)
          · have hcg : clX cl g = nth cl g.toNat := by unfold clX; rw [if_neg hg0]
            rw [hcg] at hneg
            have hgn : g.toNat < m.next.length := by omega
            simp [hg0, hneg, show ¬ (0 ≤ nth cl g.toNat) by omega, hcl, hgn, show 0 ≤ g by omega, show g.toNat + 1 ≤ m.next.length from hgn]
            repeat (refine And.intro (by omega) ?_)
            simp only [wrap_id ((k : Int) + 1) (by omega) (by omega)]
            exact Round.mk (k + 1, mp) (weak_mk (fun t => if t = 303 then some 75 else some t) (by simp [hstep]) (by simp [hstep]) rfl) ⟨hkl, by rw [hstep]; exact hmp⟩ (by simp only; omega)
        · rw [if_neg hneg] at hstep
          have hg0 : ¬ g < 0 := fun h => hneg (by unfold clX; rw [if_pos h]; omega)
          have hcg : clX cl g = nth cl g.toNat := by unfold clX; rw [if_neg hg0]
          have hgn : g.toNat < m.next.length := by omega
          rw [hcg] at hneg hlk hput hstep
          by_cases hmm : nth cl g.toNat ∈ p.1.map (clX cl)
          · rw [if_pos hmm] at hstep hlk
            simp [hg0, hneg, show 0 ≤ nth cl g.toNat by omega, hcl, hgn, hlk, show 0 ≤ g by omega, show g.toNat + 1 ≤ m.next.length from hgn]
            repeat (refine And.intro (by omega) ?_)
            simp only [wrap_id ((k : Int) + 1) (by omega) (by omega)]
            exact Round.mk (k + 1, mp) (weak_mk (fun t => if t = 303 then some 102 else some t) (by simp [hstep]) (by simp [hstep]) rfl) ⟨hkl, by rw [hstep]; exact hmp⟩ (by simp only; omega)
          · rw [if_neg hmm] at hstep hlk
            have hput := hput hmm
            simp [hg0, hneg, show 0 ≤ nth cl g.toNat by omega, hcl, hgn, hlk, show 0 ≤ g by omega, show g.toNat + 1 ≤ m.next.length from hgn]
            repeat (refine And.intro (by omega) ?_)
            simp only [wrap_id ((k : Int) + 1) (by omega) (by omega)]
            rw [List.length_map] at hput
            refine Round.mk (k + 1, putI (nth cl g.toNat) (.int .i64 (p.1.length : Nat)) mp) (weak_mk (fun t => if t = 303 then some 102 else if t = 302 then some 98 else some t) (by simp [hstep]) (by simp [hstep]) rfl) ⟨hkl, ?_⟩ (by simp only; omega)
            simp only [hstep]
            rw [List.map_append, List.map_cons, List.map_nil, hcg]
            exact hput
      · obtain rfl : k = m.letters := by omega
        have hpi : nth (mRow cl m s q.1 m.letters).1 i = s := by
          rw [k2]
          unfold nth
          rw [getD_append hlt]
          exact hns
        have hff : ((mRow cl m s q.1 m.letters).1.map (finV m)).take (i + 1) = (q.1.map (finV m)).take i ++ [bAt m.fin s] := by
          rw [k2, List.map_append, List.take_append_of_le_length (by simp; omega), List.take_succ_eq_append_getElem (by simpa using hlt)]
          congr 1
          rw [List.getElem_map, ← finV_bAt, ← hns, nth_at hlt]
        have hfl := hm.f
        generalize mRow cl m s q.1 m.letters = p at *
        have hil : i < p.1.length := by rw [k2]; simp; omega
        have hmin : min i q.1.length = i := by omega
        simp [hlt, hil, hpi, hsn, hfl, hmin, show i + 1 ≤ p.1.length from hil]
        repeat (rw [exE_eq]; simp [hlt, hil, hpi, hsn, hfl, hmin, show i + 1 ≤ p.1.length from hil])
        repeat (refine And.intro (by omega) ?_)
        first | refine ⟨⟨by kernel_rfl, by kernel_rfl⟩, ?_⟩ | exact ⟨by kernel_rfl, by kernel_rfl⟩
        simp only [wrap_id ((i : Int) + 1) (by omega) (by omega)]
        exact Round.mk (i + 1, mp) (weak_mk (fun t => if t = 300 then some 120 else if t = 301 then some 108 else some t) (by simp) (by simp [hsucc, hff]) rfl) ⟨by simp only [hsucc]; omega, by rw [hsucc]; exact hmp⟩ (by simp only; omega)
    · have hend : (mIter cl m start i).1.length = i := by omega
      have hcan := mIter_canon hcls (start := (start : Int)) (by omega) (by rw [hstart]; exact hRs) (N := i) (l := (mIter cl m start i).1) (rows := (mIter cl m start i).2) rfl hend
      have hce := canonOf_eq hcan
      simp [hlt, canM, hce]
      left
      rw [List.take_of_length_le (by simp; omega)]
      exact .refl _
end Go.AM
