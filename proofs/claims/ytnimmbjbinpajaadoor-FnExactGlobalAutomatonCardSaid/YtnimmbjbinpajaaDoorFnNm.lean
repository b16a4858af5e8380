/-
  Minimal automata: the reference.
-/
import Derived.Test.YtnimmbjbinpajaaDoorFnNl
import Derived.Test.YtnimmbjbinpajaaDoorFnNi
set_option linter.unusedVariables false
set_option linter.unusedSimpArgs false
set_option linter.unusedSectionVars false
set_option maxRecDepth 100000
set_option maxHeartbeats 1600000
namespace Go.AM
open Go.Proofs
section
variable {c : List Int} {m : MchV} {R : Nat → Prop} (hc : ClsOk c m R)
include hc
theorem mRow_void (hR : R 0) (hv : nth c 0 < 0) : ∀ k, k ≤ m.letters → (mRow c m 0 [0] k).1 = [0] ∧ ∀ a, a < m.letters → clX c (goV m 0 a) < 0 := by
  have h1 := (hc.neg 0 hR).1 hv
  have h2 : ∀ a, a < m.letters → clX c (goV m 0 a) < 0 := fun a ha => (cls_void hc hR ha).2 fun w => by
    have := lang_der m (s := 0) (by omega) ha
    rw [show (0 : Int).toNat = 0 from rfl] at this
    rw [← this]; exact h1 (a :: w)
  intro k
  induction k with
  | zero => intro _; exact ⟨rfl, h2⟩
  | succ k ih =>
    intro hk
    refine ⟨?_, h2⟩
    rw [mRow_succ, mStep, if_pos (h2 k (by omega))]
    exact (ih (by omega)).1
theorem mIter_void (hR : R 0) (hv : nth c 0 < 0) : ∀ i, (mIter c m 0 i).1 = [0]
  | 0 => rfl
  | i + 1 => by
    have ih := mIter_void hR hv i
    rw [mIter]
    simp only [ih]
    split
    · rename_i h
      have : i = 0 := by simpa using h
      subst this
      exact (mRow_void hc hR hv m.letters (Nat.le_refl _)).1
    · exact ih
end
/-- Numbers of the classes that are met. -/
def NumOk (K : List Int) (n : Nat) (N : List Int) : Prop := N.length = n + 1 ∧ ∀ d : Nat, d < n + 1 → nth N d = open Classical in if (d : Int) ∈ K then (ixOf K d : Int) else -1
theorem num_put {K : List Int} {n : Nat} {N : List Int} (h : NumOk K n N) {d : Nat} (hd : (d : Int) ∉ K) (hdn : d < n) : NumOk (K ++ [(d : Int)]) n (N.set d (K.length : Nat)) := by
  refine ⟨by simp [h.1], fun y hy => ?_⟩
  rw [nth_setN (by rw [h.1]; omega)]
  by_cases e : y = d
  · subst e
    rw [if_pos rfl, if_pos (by simp)]
    have : ∀ (l : List Int) x, x ∉ l → ixOf (l ++ [x]) x = l.length := by
      intro l x
      induction l with
      | nil => intro _; simp [ixOf]
      | cons y l ih =>
        intro hx
        simp only [List.cons_append, ixOf]
        rw [if_neg (fun e => hx (by simp [e])), ih fun h => hx (by simp [h])]; rfl
    rw [this _ _ hd]
  · rw [if_neg e, h.2 y hy]
    by_cases e3 : (y : Int) ∈ K
    · rw [if_pos e3, if_pos (by simp [e3]), ixOf_snoc e3]
    · rw [if_neg e3, if_neg (by simp [e3]; omega)]
theorem rep_set {k n : Nat} (hk : k < n) : ((List.replicate k (-1 : Int)) ++ List.replicate (n - k) 0).set k (-1) = List.replicate (k + 1) (-1) ++ List.replicate (n - (k + 1)) 0 := by
  rw [set_key (by simp) hk, List.replicate_succ']
theorem l11Minimal_spec (a b c : Bool) (m : MchV) (hm : MchOk m) (hn : m.next.length ≤ 65535) (h8 : m.letters ≤ 8) (h0 : 0 < m.next.length) :
    ACalls1 Tryd.prog 52 [refA a b c m] (.tup [autOw false true (autL m.letters (langV m 0)).1, iv (canM m.letters (langV m 0)).next.length]) := by
  have hfl := hm.f
  refine walk (fun t => t == 1 || t == 7016) mixed Go.Proofs.Tryd.func52 rfl rfl rfl (by kernel_rfl) rfl (by simp) (by kernel_rfl) ?_
  simp
  refine ⟨_, l11Classes_spec a b c m hm hn h8 h0, ?_⟩
  rintro _ _ ⟨rfl, cl, hcl, hcls, hclb, rfl⟩
  have hc0 : 0 < cl.length := by omega
  have hw1 : IntKind.i64.wrap ((m.next.length : Int) + 1) = (m.next.length : Int) + 1 := wrap_id _ (by omega) (by omega)
  have ht1 : ((m.next.length : Int) + 1).toNat = m.next.length + 1 := by omega
  simp [hw1, ht1]
  repeat (refine And.intro (by omega) ?_)
  refine awp_loop2 [1, 2, 4, 5, 6, 7] [2, 16, 5, 20] (fun k : Nat => [(8, iv k)]) (fun k => [(25, .own 1 true (ints (List.replicate k (-1) ++ List.replicate (m.next.length + 1 - k) 0)))]) (fun k => k ≤ m.next.length + 1) (fun k => m.next.length + 1 - k) 0 (weak_mk some (by simp) (by simp) rfl) (by simp) ?_
  intro k hk
  by_cases hkl : k < m.next.length + 1
  · have hkL : k < (List.replicate k (-1 : Int) ++ List.replicate (m.next.length + 1 - k) 0).length := by simp; omega
    have hset := rep_set (n := m.next.length + 1) hkl
    simp [hkl, show k + (m.next.length + 1 - k) = m.next.length + 1 by omega, show (k : Int) < (m.next.length : Int) + 1 by omega, show k + 1 ≤ m.next.length + 1 by omega]
    repeat (refine And.intro (by omega) ?_)
    rw [ints_put _ _ _ hkL, hset]
    simp only [wrap_id ((k : Int) + 1) (by omega) (by omega)]
    exact Round.mk (k + 1) (weak_mk some (by simp) (by simp) rfl) hkl (by omega)
  · obtain rfl : k = m.next.length + 1 := by omega
    have hR0 : (fun s => s < m.next.length) 0 := h0
    have hcx0 : clX cl (0 : Int) = nth cl 0 := by unfold clX; rw [if_neg (by omega)]; rfl
    have hMI := fun i => mIter_ok hcls (start := (0 : Int)) (by omega) (by simpa using h0) i
    have hvoid := fun h i => mIter_void hcls hR0 h i
    have hvrow := fun h => mRow_void hcls hR0 h
    have hb0 := hclb 0 h0
    have hrep : ∀ d : Nat, d < m.next.length + 1 → nth (List.replicate (m.next.length + 1) (-1 : Int)) d = -1 := fun d hd => by
      unfold nth; simp [List.getD_eq_getElem?_getD, hd]
    simp
    refine ⟨by omega, by omega, fun hp => ⟨by omega, by omega, hp, by omega, ?A⟩, fun hp => ?B⟩
    case' A =>
      have hput := ints_put (List.replicate (m.next.length + 1) (-1)) (nth cl 0).toNat 0 (by simp; omega)
      rw [hput]
      have hN0 : NumOk [nth cl 0] m.next.length ((List.replicate (m.next.length + 1) (-1 : Int)).set (nth cl 0).toNat 0) := by
        refine ⟨by simp, fun d hd => ?_⟩
        rw [nth_setN (by simp; omega)]
        by_cases e : (d : Int) = nth cl 0
        · rw [if_pos (by omega), if_pos (by simp [e])]; simp [ixOf, e]
        · rw [if_neg (by omega), if_neg (by simp [e]), hrep d hd]
      generalize (List.replicate (m.next.length + 1) (-1 : Int)).set (nth cl 0).toNat 0 = N0 at *
    case' B =>
      have hN0 : NumOk [nth cl 0] m.next.length (List.replicate (m.next.length + 1) (-1 : Int)) := by
        refine ⟨by simp, fun d hd => ?_⟩
        rw [if_neg (by simp; omega), hrep d hd]
      generalize List.replicate (m.next.length + 1) (-1 : Int) = N0 at *
    all_goals
      refine awp_loop2 [1, 2, 4, 5, 7] [2, 16] (fun s : Nat × List Int => [(9, iv s.1), (6, .ref 302)]) (fun s => [(5, .box [iv m.letters, iv 0, iv 0, .ref 300]), (300, .own 1 false (orows true (mIter cl m 0 s.1).2)), (302, .own 1 true (ints (mIter cl m 0 s.1).1)), (25, .own 1 true (ints s.2))]) (fun s => s.1 ≤ (mIter cl m 0 s.1).1.length ∧ NumOk ((mIter cl m 0 s.1).1.map (clX cl)) m.next.length s.2) (fun s => m.next.length + 1 - s.1) (0, N0) (weak_mk (fun t => if t = 300 then none else if t = 302 then some 20 else some t) (by simp) (by simp [mIter, ints]) rfl) ⟨by simp, by simpa [mIter, hcx0] using hN0⟩ ?_
      rintro ⟨i, N⟩ ⟨hi, hN⟩
      simp only at hi hN
      obtain ⟨hM1, hM2, hM3, hM4⟩ := hMI i
      have hMl := mItOk_len hcls hM1
      have hvi := fun h => hvoid h i
      have hsucc : mIter cl m 0 (i + 1) = if i < (mIter cl m 0 i).1.length then ((mRow cl m (nth (mIter cl m 0 i).1 i).toNat (mIter cl m 0 i).1 m.letters).1, (mIter cl m 0 i).2 ++ [(mRow cl m (nth (mIter cl m 0 i).1 i).toNat (mIter cl m 0 i).1 m.letters).2]) else mIter cl m 0 i := rfl
      by_cases hlt : i < (mIter cl m 0 i).1.length
      · rw [if_pos hlt] at hsucc
        have hmem : nth (mIter cl m 0 i).1 i ∈ (mIter cl m 0 i).1 := by rw [nth_at hlt]; exact List.getElem_mem hlt
        obtain ⟨hs0, hsR⟩ := hM1.r _ hmem
        have hsn := hcls.lt _ hsR
        have hrl := hm.rl _ hsn
        have hRow := fun k hk => mRow_ok hcls hsR hM1 k hk
        have hRs := fun k => mRow_succ cl m (nth (mIter cl m 0 i).1 i).toNat (mIter cl m 0 i).1 k
        have hRz : mRow cl m (nth (mIter cl m 0 i).1 i).toNat (mIter cl m 0 i).1 0 = ((mIter cl m 0 i).1, []) := rfl
        have hns : nth (mIter cl m 0 i).1 i = (((nth (mIter cl m 0 i).1 i).toNat : Nat) : Int) := by omega
        have hnv : nth cl 0 < 0 → (nth (mIter cl m 0 i).1 i).toNat = 0 := fun h => by
          have e := hvi h
          have hi0 : i = 0 := by rw [e] at hlt; simpa using hlt
          rw [e, hi0]; rfl
        generalize hq : mIter cl m 0 i = q at *
        generalize hsx : (nth q.1 i).toNat = s at *
        simp [hlt]
        refine awp_loop2 [1, 2, 4, 5, 7, 9] [2, 16, 5, 300] (fun k : Nat × List Int => [(11, iv k.1), (10, .ref 303), (6, .ref 302)]) (fun k => [(303, .own 1 true (ints (mRow cl m s q.1 k.1).2)), (302, .own 1 true (ints (mRow cl m s q.1 k.1).1)), (25, .own 1 true (ints k.2))]) (fun k => k.1 ≤ m.letters ∧ NumOk ((mRow cl m s q.1 k.1).1.map (clX cl)) m.next.length k.2) (fun k => m.letters - k.1) (0, N) (weak_mk (fun t => if t = 303 then some 50 else some t) (by simp) (by simp [hRz, ints]) rfl) ⟨by simp, by rw [hRz]; exact hN⟩ ?_
        rintro ⟨k, N⟩ ⟨hk, hN⟩
        simp only at hk hN
        obtain ⟨k1, ⟨t, k2⟩, k3, k4, _, _, k7⟩ := hRow k hk
        have kl := mItOk_len hcls k1
        by_cases hkl : k < m.letters
        · have hgo := hm.rr s hsn k hkl
          have hgv : nth (nthR m.next s) k = goV m s k := rfl
          have hstep := hRs k
          have hneg0 : nth cl 0 < 0 → clX cl (goV m s k) < 0 := fun h => by
            rw [hnv h]
            exact (hvrow h 0 (by omega)).2 k hkl
          unfold mStep at hstep
          have hpi : nth (mRow cl m s q.1 k).1 i = s := by
            rw [k2]
            unfold nth
            rw [getD_append hlt]
            exact hns
          generalize hge : goV m s k = g at *
          generalize mRow cl m s q.1 k = p at *
          have hil : i < p.1.length := by rw [k2]; simp; omega
          simp [hkl, hil, hpi, hsn, hrl, hgv, show i + 1 ≤ p.1.length from hil, show s + 1 ≤ m.next.length from hsn]
          repeat (rw [exE_eq]; simp [hkl, hil, hpi, hsn, hrl, hgv, show i + 1 ≤ p.1.length from hil, show s + 1 ≤ m.next.length from hsn])
          refine ⟨_, l11ClassOf_spec true cl g (by omega), ?_⟩
          by_cases hneg : clX cl g < 0
          · rw [if_pos hneg] at hstep
            by_cases hz : nth cl 0 < 0
            · simp [hc0, hz, show 1 ≤ cl.length from hc0]
              repeat (refine And.intro (by omega) ?_)
              simp only [wrap_id ((k : Int) + 1) (by omega) (by omega)]
              exact Round.mk (k + 1, N) (weak_mk (fun t => if t = 303 then some 80 else some t) (by simp [hstep]) (by simp [hstep]) rfl) ⟨hkl, by rw [hstep]; exact hN⟩ (by simp only; omega)
            · simp [hc0, hz, show 0 ≤ nth cl 0 by omega, hneg, show 1 ≤ cl.length from hc0]
              repeat (refine And.intro (by omega) ?_)
              simp only [wrap_id ((k : Int) + 1) (by omega) (by omega)]
              exact Round.mk (k + 1, N) (weak_mk (fun t => if t = 303 then some 80 else some t) (by simp [hstep]) (by simp [hstep]) rfl) ⟨hkl, by rw [hstep]; exact hN⟩ (by simp only; omega)
          · have hz : ¬ nth cl 0 < 0 := fun h => hneg (hneg0 h)
            rw [if_neg hneg] at hstep
            have hg0 : ¬ g < 0 := fun h => hneg (by unfold clX; rw [if_pos h]; omega)
            have hcg : clX cl g = nth cl g.toNat := by unfold clX; rw [if_neg hg0]
            have hdb := hclb g.toNat (by omega)
            obtain ⟨d, hd⟩ := Int.eq_ofNat_of_zero_le (show 0 ≤ clX cl g by omega)
            rw [← hcg, hd] at hdb
            rw [hd] at hstep hneg ⊢
            have hNl := hN.1
            have hNd := hN.2 d (by omega)
            have hdN : d < N.length := by omega
            have hput := fun h => num_put hN (d := d) h (by omega)
            by_cases hmm : (d : Int) ∈ p.1.map (clX cl)
            · rw [if_pos hmm] at hstep hNd
              simp [hc0, hz, show 0 ≤ nth cl 0 by omega, show 1 ≤ cl.length from hc0, hNl, hNd, show d < m.next.length + 1 by omega, show d + 1 ≤ m.next.length + 1 by omega, show d ≤ m.next.length by omega]
              repeat (refine And.intro (by omega) ?_)
              simp only [wrap_id ((k : Int) + 1) (by omega) (by omega)]
              exact Round.mk (k + 1, N) (weak_mk (fun t => if t = 303 then some 111 else some t) (by simp [hstep]) (by simp [hstep]) rfl) ⟨hkl, by rw [hstep]; exact hN⟩ (by simp only; omega)
            · rw [if_neg hmm] at hstep hNd
              have hput := hput hmm
              rw [List.length_map] at hput
              have hsi := ints_put N d ((p.1.length : Nat) : Int) hdN
              have hnd2 : nth (N.set d ((p.1.length : Nat) : Int)) d = (p.1.length : Nat) := by rw [nth_setN hdN, if_pos rfl]
              have hNsl : (N.set d ((p.1.length : Nat) : Int)).length = m.next.length + 1 := by simp [hNl]
              simp [hc0, hz, hsi, hnd2, hNsl, hil, hpi, hsn, hrl, hgv, hkl, show ¬ ((d : Nat) : Int) < 0 by omega, show 0 ≤ nth cl 0 by omega, show 1 ≤ cl.length from hc0, hNl, hNd, show d < m.next.length + 1 by omega, show d + 1 ≤ m.next.length + 1 by omega, show d ≤ m.next.length by omega, show i + 1 ≤ p.1.length from hil, show s + 1 ≤ m.next.length from hsn]
              repeat (rw [exE_eq]; simp [hc0, hz, hsi, hnd2, hNsl, hil, hpi, hsn, hrl, hgv, hkl, hNl, show i + 1 ≤ p.1.length from hil, show s + 1 ≤ m.next.length from hsn, show d < m.next.length + 1 by omega, show d + 1 ≤ m.next.length + 1 by omega, show d ≤ m.next.length by omega])
              repeat (refine And.intro (by first | omega | exact ⟨by kernel_rfl, by kernel_rfl⟩) ?_)
              simp only [wrap_id ((k : Int) + 1) (by omega) (by omega)]
              refine Round.mk (k + 1, N.set d ((p.1.length : Nat) : Int)) (weak_mk (fun t => if t = 303 then some 111 else if t = 302 then some 104 else some t) (by simp [hstep]) (by simp [hstep]) rfl) ⟨hkl, ?_⟩ (by simp only; omega)
              simp only [hstep]
              rw [List.map_append, List.map_cons, List.map_nil, hd]
              exact hput
        · obtain rfl : k = m.letters := by omega
          simp [hlt]
          repeat (refine And.intro (by omega) ?_)
          simp only [wrap_id ((i : Int) + 1) (by omega) (by omega)]
          exact Round.mk (i + 1, N) (weak_mk (fun t => if t = 300 then some 116 else some t) (by simp) (by simp [hsucc]) rfl) ⟨by simp only [hsucc]; rw [k2]; simp; omega, by rw [hsucc]; exact hN⟩ (by simp only; omega)
      · have hend : (mIter cl m 0 i).1.length = i := by omega
        have hcan := mIter_canon hcls (start := (0 : Int)) (by omega) (by simpa using h0) (N := i) (l := (mIter cl m 0 i).1) (rows := (mIter cl m 0 i).2) rfl hend
        have hce := canonOf_eq hcan
        have hlen := canon_len hcan
        rw [List.length_map] at hlen
        have hA : autL m.letters (langV m 0) = if (mIter cl m 0 i).2.length ≤ 16 then (⟨m.letters, 0, finM ((mIter cl m 0 i).1.map fun s => finV m s) ((mIter cl m 0 i).1.map fun s => finV m s).length, (mIter cl m 0 i).2⟩, 0) else (⟨0, 0, 0, []⟩, 3) := by
          unfold autL canM
          rw [hce]
        have hCn : (canM m.letters (langV m 0)).next.length = (mIter cl m 0 i).1.length := by unfold canM; rw [hce]; simp only; omega
        have hMr := hM1.r
        rw [hA, hCn, ← hlen]
        generalize hq : mIter cl m 0 i = q at *
        by_cases h16 : q.1.length ≤ 16
        · simp [hlt, h16, show ¬ (16 : Int) < (q.1.length : Int) by omega, show ((q.1.length : Nat) : Int) ≤ 16 by omega]
          refine awp_loop2 [1, 2, 5, 6, 13] [2, 300, 302] (fun k : Nat => [(14, iv k)]) (fun k => [(5, .box [iv m.letters, iv 0, iv (finM (q.1.map fun s => finV m s) k), .ref 300])]) (fun k => k ≤ q.1.length) (fun k => q.1.length - k) 0 (weak_mk some (by simp) (by simp [finM]) rfl) (by simp) ?_
          intro k hk
          by_cases hkl : k < q.1.length
          · have hfs : finM (q.1.map fun s => finV m s) (k + 1) = if bAt (q.1.map fun s => finV m s) k then ibits .or .i64 (finM (q.1.map fun s => finV m s) k) (pow1 k) else finM (q.1.map fun s => finV m s) k := rfl
            obtain ⟨hr1, hr2⟩ := hMr _ (nth_mem hkl)
            obtain ⟨t, ht⟩ := Int.eq_ofNat_of_zero_le hr1
            rw [ht] at hr2
            have hr3 : t < m.next.length := hr2
            have hbt : bAt (q.1.map fun s => finV m s) k = bAt m.fin t := by
              unfold bAt
              rw [getD_lt (by simpa using hkl), List.getElem_map, ← nth_at hkl, ht, finV_bAt]; rfl
            rw [hbt] at hfs
            cases hb : bAt m.fin t
            · rw [hb] at hfs
              simp [hkl, ht, hfl, hr3, hb, show k + 1 ≤ q.1.length from hkl]
              try repeat (rw [exE_eq]; simp [hkl, ht, hfl, hr3, hb, show k + 1 ≤ q.1.length from hkl])
              try simp only [wrap_id ((k : Int) + 1) (by omega) (by omega)]
              exact Round.mk (k + 1) (weak_mk some (by simp) (by simp [hfs]) rfl) hkl (by omega)
            · rw [hb] at hfs
              simp [hkl, ht, hfl, hr3, hb, show k + 1 ≤ q.1.length from hkl]
              try repeat (rw [exE_eq]; simp [hkl, ht, hfl, hr3, hb, show k + 1 ≤ q.1.length from hkl])
              refine ⟨_, l01One_spec k (by unfold I64; omega), ?_⟩
              simp
              first | refine ⟨⟨by kernel_rfl, by kernel_rfl⟩, ?_⟩ | exact ⟨by kernel_rfl, by kernel_rfl⟩
              try simp only [wrap_id ((k : Int) + 1) (by omega) (by omega)]
              exact Round.mk (k + 1) (weak_mk some (by simp) (by simp [hfs]) rfl) hkl (by omega)
          · obtain rfl : k = q.1.length := by omega
            simp
        · simp [hlt, h16, show (16 : Int) < (q.1.length : Int) by omega, show ¬ ((q.1.length : Nat) : Int) ≤ 16 by omega]
end Go.AM
