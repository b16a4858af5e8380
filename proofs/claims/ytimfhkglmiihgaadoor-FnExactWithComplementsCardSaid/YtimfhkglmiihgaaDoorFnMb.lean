/-
  MarkingsOf: both sides.
-/
import Derived.Test.YtimfhkglmiihgaaDoorFnMa
import Derived.Test.YtimfhkglmiihgaaDoorFnSo
import Derived.Test.YtimfhkglmiihgaaDoorFnM
set_option linter.unusedVariables false
set_option linter.unusedSimpArgs false
set_option maxRecDepth 100000
set_option maxHeartbeats 1600000
namespace Go.AM
open Go.Proofs
/-- A map that tells membership. -/
def SeenOk (l : List Int) (m : List (Int × Value)) : Prop := ∀ d, m.lookup d = if d ∈ l then some (.bool true) else none
theorem seen_put {l : List Int} {m : List (Int × Value)} (h : SeenOk l m) (d : Int) : SeenOk (l ++ [d]) (putI d (.bool true) m) := by
  intro y
  rw [lookup_putI]
  by_cases e : y = d
  · subst e; simp
  · rw [if_neg e, h y]
    by_cases hy : y ∈ l <;> simp [hy, e]
theorem seen_one (d : Int) : SeenOk [d] [(d, .bool true)] := by
  intro y
  by_cases e : y = d
  · subst e; simp
  · have : (y == d) = false := by simpa using e
    simp [List.lookup, this, e]
theorem markings_spec (n1 n2 : Bool) (x : NetV) (hx : isNet x.p x.pre x.post x.s = true) : ACalls1 Tryd.prog 172 [netSl n1 n2 x] (.tup [.own 1 false (ints (markingsOfV x).1), iv (markingsOfV x).2]) := by
  have hl := isNet_len hx
  refine walk (fun t => t == 1 || t == 2057) mixed Go.Proofs.Tryd.func172 rfl rfl rfl (by kernel_rfl) rfl (by simp) (by kernel_rfl) ?_
  simp
  repeat (rw [exE_eq]; simp)
  repeat (refine And.intro (by first | omega | exact ⟨by kernel_rfl, by kernel_rfl⟩) ?_)
  refine awp_loop2 [1, 5] [] (fun s : Nat × BL × List (Int × Value) => [(6, iv s.1), (4, .ref 100)]) (fun s => [(100, .own 1 true (ints (keys s.2.1))), (13, .mp (mI s.2.2))]) (fun s => s.1 ≤ s.2.1.length ∧ s.2.1.length ≤ 256 ∧ BOk x s.1 s.2.1 ∧ bfsA x (300 - s.1) s.1 s.2.1 = reachV x ∧ SeenOk (keys s.2.1) s.2.2) (fun s => 300 - s.1) (0, [(x.s, [])], [(x.s, .bool true)]) (weak_mk (fun t => if t = 100 then some 12 else some t) (by simp) (by simp [keys, mI, ints]) rfl) ⟨by simp, by simp, bok_start hx, rfl, seen_one _⟩ ?_
  rintro ⟨i, L, m⟩ ⟨hi, hle, hb, hr, hs⟩
  simp only at hi hle hb hr hs
  have hkl : (keys L).length = L.length := keys_length L
  have hV : markingsOfV x = if (reachV x).length ≤ 256 then (sortI (keys (reachV x)), 0) else ([], 3) := by unfold markingsOfV; rw [if_pos hx]
  by_cases hlt : i < L.length
  · have hki := keys_nth hlt
    have hmi := hb.ms _ (blAt_mem hlt)
    have hproc : ∀ k, k ≤ x.pre.length → keys (foA x (blAt L i) L k) = (foM x (blAt L i).1 (keys L) k).take 257 := fun k hk => foAM hx hb hlt (by rw [List.take_of_length_le (by omega)]) k hk
    have hpok := foA_ok hx hb hlt x.pre.length (Nat.le_refl _)
    have hgo := bfsA_go (x := x) hlt (by omega)
    unfold procA at hgo
    generalize hA : foA x (blAt L i) L x.pre.length = A at *
    generalize (blAt L i).1 = c at *
    simp [hlt]
    refine ⟨_, length_spec _ _ (by unfold Fits; omega), ?_⟩
    simp
    refine awp_loop2 [1, 5, 6, 25] [] (fun s : Nat × List (Int × Value) => [(26, iv s.1), (4, .ref 100)]) (fun s => [(100, .own 1 true (ints (foM x c (keys L) s.1))), (13, .mp (mI s.2))]) (fun s => s.1 ≤ x.pre.length ∧ SeenOk (foM x c (keys L) s.1) s.2) (fun s => x.pre.length - s.1) (0, m) (weak_mk some (by simp) (by simp [foM]) rfl) ⟨by simp, hs⟩ ?_
    rintro ⟨a, m'⟩ ⟨ha, hs'⟩
    simp only at ha hs'
    obtain ⟨t, ht, htl⟩ := foM_ext x c (keys L) a
    have hfl : (foM x c (keys L) a).length ≤ 264 := by rw [ht, List.length_append]; omega
    have hil : i < (foM x c (keys L) a).length := by rw [ht, List.length_append]; omega
    have hnt : nth (foM x c (keys L) a) i = c := by
      rw [nth_at hil]
      simp only [ht]
      rw [List.getElem_append_left (by omega), ← nth_at (by omega)]
      exact hki
    by_cases hal : a < x.pre.length
    · have hst := foM_succ x c (keys L) a
      unfold stM at hst
      simp [hal, hil, hnt, show i + 1 ≤ (foM x c (keys L) a).length from hil]
      repeat (rw [exE_eq]; simp [hal, hil, hnt, show i + 1 ≤ (foM x c (keys L) a).length from hil])
      refine ⟨_, fire_spec _ _ x c a hal (by omega), ?_⟩
      cases hfb : fireBad x c a
      · have hsd := hs' (fireTo x c a)
        rw [hfb] at hst
        by_cases hmem : fireTo x c a ∈ foM x c (keys L) a
        · rw [if_pos hmem] at hsd
          rw [if_neg (by simp), if_pos hmem] at hst
          simp [hsd, wrap_id ((a : Int) + 1) (by omega) (by omega)]
          exact Round.mk (a + 1, m') (weak_mk some (by simp) (by simp [hst]) rfl) ⟨hal, by rw [hst]; exact hs'⟩ (by simp only; omega)
        · rw [if_neg hmem] at hsd
          rw [if_neg (by simp), if_neg hmem] at hst
          simp [hsd, wrap_id ((a : Int) + 1) (by omega) (by omega)]
          repeat (refine And.intro (by omega) ?_)
          exact Round.mk (a + 1, putI (fireTo x c a) (.bool true) m') (weak_mk (fun t => if t = 100 then some 51 else some t) (by simp) (by simp [hst]) rfl) ⟨hal, by rw [hst]; exact seen_put hs' _⟩ (by simp only; omega)
      · rw [hfb, if_pos rfl] at hst
        simp [wrap_id ((a : Int) + 1) (by omega) (by omega)]
        exact Round.mk (a + 1, m') (weak_mk some (by simp) (by simp [hst]) rfl) ⟨hal, by rw [hst]; exact hs'⟩ (by simp only; omega)
    · obtain rfl : a = x.pre.length := by omega
      have hpk := hproc x.pre.length (Nat.le_refl _)
      rw [hA] at hpk
      have hAl : A.length = min 257 (foM x c (keys L) x.pre.length).length := by rw [← keys_length A, hpk, List.length_take]
      by_cases hbig : 256 < (foM x c (keys L) x.pre.length).length
      · have h257 : (reachV x).length = 257 := by
          rw [← hr, hgo]
          exact reach_big hx hpok (by omega)
        rw [if_neg (by omega)] at hV
        simp [hV, show ¬ ((foM x c (keys L) x.pre.length).length : Int) ≤ 256 by omega, show (256 : Int) < ((foM x c (keys L) x.pre.length).length : Int) by omega]
      · rw [List.take_of_length_le (by omega)] at hpk
        obtain ⟨t2, ht2⟩ := foA_ext x (blAt L i) L x.pre.length
        rw [hA] at ht2
        simp [show ((foM x c (keys L) x.pre.length).length : Int) ≤ 256 by omega, show ¬ (256 : Int) < ((foM x c (keys L) x.pre.length).length : Int) by omega, wrap_id ((i : Int) + 1) (by omega) (by omega)]
        have hA256 : A.length ≤ 256 := by omega
        exact Round.mk (i + 1, A, m') (weak_mk some (by simp) (by simp [hpk]) rfl) ⟨by simp only; omega, hA256, hpok, by rw [← hgo]; exact hr, by rw [hpk]; exact hs'⟩ (by simp only; omega)
  · obtain rfl : i = L.length := by omega
    rw [bfsA_end (by omega)] at hr
    rw [← hr, if_pos hle] at hV
    simp
    refine ⟨_, _, Sort_spec true (keys L) (by unfold Fits; omega), ?_⟩
    simp [hV]
theorem MarkingsOf_spec (n1 n2 : Bool) (x : NetV) (hx : NetOk x) : ACalls1 Tryd.prog 125 [netSl n1 n2 x] (.tup [.own 1 false (ints (markingsOfV x).1), iv (markingsOfV x).2]) := by
  refine walk (fun t => t == 1) mixed Go.Proofs.Tryd.func125 rfl rfl rfl (by kernel_rfl) rfl (by simp) (by kernel_rfl) ?_
  simp
  refine ⟨_, IsNet_spec _ _ x.p x.pre x.post x.s, ?_⟩
  cases h : isNet x.p x.pre x.post x.s
  · simp [markingsOfV, h]
  · simp
    refine ⟨_, markings_spec _ _ x h, ?_⟩
    simp
theorem l17Reached_spec (n1 n2 : Bool) (x : NetV) (hx : isNet x.p x.pre x.post x.s = true) : ACalls1 Tryd.prog 169 [netSl n1 n2 x] (.tup [.own 1 true (ints (keys (reachV x))), .own 1 true (srows true (runs (reachV x)))]) := by
  have hl := isNet_len hx
  refine walk (fun t => t == 1 || t == 4012 || t == 5058) mixed Go.Proofs.Tryd.func169 rfl rfl rfl (by kernel_rfl) rfl (by simp) (by kernel_rfl) ?_
  simp
  refine awp_loop2 [1] [] (fun s : Nat × BL => [(6, iv s.1), (4, .ref 100), (5, .ref 101)]) (fun s => [(100, .own 1 true (ints (keys s.2))), (101, .own 1 true (srows true (runs s.2)))]) (fun s => s.1 ≤ s.2.length ∧ BOk x s.1 s.2 ∧ bfsA x (300 - s.1) s.1 s.2 = reachV x) (fun s => 300 - s.1) (0, [(x.s, [])]) (weak_mk (fun t => if t = 100 then some 11 else if t = 101 then some 13 else some t) (by simp) (by simp [keys, runs, ints, srows]) rfl) ⟨by simp, bok_start hx, rfl⟩ ?_
  rintro ⟨i, L⟩ ⟨hi, hb, hr⟩
  simp only at hi hb hr
  have hkl : (keys L).length = L.length := keys_length L
  have h257 := hb.le
  by_cases hlt : i < L.length
  · have hmi := hb.ms _ (blAt_mem hlt)
    have hgo := bfsA_go (x := x) hlt (by omega)
    simp [hlt]
    refine awp_loop2 [1, 6] [] (fun a : Nat => [(7, iv a), (4, .ref 100), (5, .ref 101)]) (fun a => [(100, .own 1 true (ints (keys (foA x (blAt L i) L a)))), (101, .own 1 true (srows true (runs (foA x (blAt L i) L a))))]) (fun a => a ≤ x.pre.length) (fun a => x.pre.length - a) 0 (weak_mk some (by simp) (by simp [foA]) rfl) (by simp) ?_
    intro a ha
    simp
    refine ⟨_, l17Letters_spec _ _ x, ?_⟩
    by_cases hal : a < x.pre.length
    · have hok := foA_ok hx hb hlt a ha
      have hsucc := foA_succ x (blAt L i) L a
      obtain ⟨t, ht⟩ := foA_ext x (blAt L i) L a
      have hiA : i < (foA x (blAt L i) L a).length := by rw [ht, List.length_append]; omega
      have hat : blAt (foA x (blAt L i) L a) i = blAt L i := by rw [ht]; exact blAt_ext hlt
      have hk1 := keys_nth hiA
      have hr1 := runs_nth hiA
      rw [hat] at hk1 hr1
      have hAle := hok.le
      have hfn := fireTo_nonneg x (blAt L i).1 a (isNet_M hx) hmi.1 hal (by omega)
      have hrl := hb.rl _ (blAt_mem hlt)
      unfold stA at hsucc
      have hkA : (keys (foA x (blAt L i) L a)).length = (foA x (blAt L i) L a).length := keys_length _
      have hrA : (runs (foA x (blAt L i) L a)).length = (foA x (blAt L i) L a).length := runs_length _
      generalize foA x (blAt L i) L a = A at *
      generalize (blAt L i).1 = c at *
      generalize (blAt L i).2 = r at *
      simp [hal, hiA, hk1, show i + 1 ≤ A.length from hiA]
      repeat (rw [exE_eq]; simp [hal, hiA, hk1, show i + 1 ≤ A.length from hiA])
      refine ⟨_, l17Fire_spec _ _ x c a hal (by omega), ?_⟩
      cases hfb : fireBad x c a
      · rw [hfb, if_neg (by simp)] at hsucc
        simp [hfn]
        refine ⟨_, l01Has_spec _ _ (by unfold Fits; omega) _, ?_⟩
        by_cases hmem : fireTo x c a ∈ keys A
        · rw [if_pos hmem] at hsucc
          simp [hmem, wrap_id ((a : Int) + 1) (by omega) (by omega)]
          exact Round.mk (a + 1) (weak_mk some (by simp) (by simp [hsucc]) rfl) hal (by omega)
        · rw [if_neg hmem] at hsucc
          by_cases hle : A.length ≤ 256
          · rw [if_pos hle] at hsucc
            simp [hmem, hiA, hr1, show i + 1 ≤ A.length from hiA, show ((A.length : Nat) : Int) ≤ 256 by omega]
            refine ⟨by omega, by omega, ?_⟩
            refine ⟨_, l01Own_spec _ _ (by unfold Fits; omega), ?_⟩
            simp [wrap_id ((a : Int) + 1) (by omega) (by omega)]
            repeat (refine And.intro (by omega) ?_)
            exact Round.mk (a + 1) (weak_mk (fun t => if t = 100 then some 49 else if t = 101 then some 60 else some t) (by simp) (by simp [hsucc, keys_snoc, runs_snoc]) rfl) hal (by omega)
          · rw [if_neg hle] at hsucc
            simp [hmem, show ¬ ((A.length : Nat) : Int) ≤ 256 by omega, wrap_id ((a : Int) + 1) (by omega) (by omega)]
            exact Round.mk (a + 1) (weak_mk some (by simp) (by simp [hsucc]) rfl) hal (by omega)
      · rw [hfb, if_pos rfl] at hsucc
        simp [wrap_id ((a : Int) + 1) (by omega) (by omega)]
        exact Round.mk (a + 1) (weak_mk some (by simp) (by simp [hsucc]) rfl) hal (by omega)
    · obtain rfl : a = x.pre.length := by omega
      have hok := foA_ok hx hb hlt x.pre.length (Nat.le_refl _)
      obtain ⟨t, ht⟩ := foA_ext x (blAt L i) L x.pre.length
      simp [wrap_id ((i : Int) + 1) (by omega) (by omega)]
      exact Round.mk (i + 1, procA x L i) (weak_mk some (by simp) (by simp [procA]) rfl) ⟨by simp only [procA]; rw [ht]; simp; omega, hok, by rw [← hgo]; exact hr⟩ (by simp only; omega)
  · obtain rfl : i = L.length := by omega
    rw [bfsA_end (by omega)] at hr
    simp [hr]
theorem l12Insert_spec (nn : Bool) (l : List Int) (hl : l.length ≤ 1000000) (n : Int) (hn : ¬ n ∈ l) : ACalls1 Tryd.prog 200 [.sl 1 nn (ints l), iv n] (.own 1 true (ints (insI n l))) := by
  refine walk (fun _ => false) mixed Go.Proofs.Tryd.func200 rfl rfl rfl (by kernel_rfl) rfl (by simp) (by kernel_rfl) ?_
  simp
  refine awp_loop2 [0, 1] [] (fun k : Nat => [(5, iv k)]) (fun _ => []) (fun k => k ≤ l.length ∧ ∀ i, i < k → nth l i < n) (fun k => l.length - k) 0 (weak_mk some (by simp) (by simp) rfl) ⟨by simp, by simp⟩ ?_
  rintro k ⟨hk, hp⟩
  have stop : (k < l.length → ¬ nth l k < n) → k = insAt n l := fun h => insAt_eq hk hp h
  by_cases hkl : k < l.length
  · by_cases hkn : nth l k < n
    · simp [hkl, hkn, wrap_id ((k : Int) + 1) (by omega) (by omega)]
      refine Round.mk (k + 1) (weak_mk some (by simp) (by simp) rfl) ⟨hkl, fun i hi => ?_⟩ (by omega)
      by_cases e : i = k
      · subst e; exact hkn
      · exact hp i (by omega)
    · have hat := stop (fun _ => hkn)
      have hne : ¬ nth l k = n := fun e => hn (e ▸ nth_mem hkl)
      rw [insI_eq, ← hat]
      simp [hkl, hkn, hne, ints_drop, ints_take]
      have hmin : min k l.length = k := by omega
      rw [hmin]
      repeat (refine And.intro (by omega) ?_)
      left
      have h2 : (l.drop k).take (l.length - k) = l.drop k := List.take_of_length_le (by simp)
      rw [h2, ← ints_cons, ← ints_append]
      exact .refl _
  · have hat := stop (fun h => absurd h hkl)
    obtain rfl : k = l.length := by omega
    rw [insI_eq, ← hat]
    simp [ints_drop, ints_take]
    omega
theorem l17Sorted_spec (nn : Bool) (l : List Int) (hl : l.length ≤ 1000000) (hnd : l.Nodup) : ACalls1 Tryd.prog 170 [.sl 1 nn (ints l)] (.own 1 true (ints (sortI l))) := by
  refine walk (fun _ => false) mixed Go.Proofs.Tryd.func170 rfl rfl rfl (by kernel_rfl) rfl (by simp) (by kernel_rfl) ?_
  simp
  refine awp_loop2 [0] [] (fun k : Nat => [(4, iv k), (3, .ref 100)]) (fun k => [(100, .own 1 true (ints (sortI (l.take k))))]) (fun k => k ≤ l.length) (fun k => l.length - k) 0 (weak_mk (fun t => if t = 100 then some 5 else some t) (by simp) (by simp [sortI_nil]) rfl) (by simp) ?_
  intro k hk
  by_cases hkl : k < l.length
  · have hn : ¬ nth l k ∈ sortI (l.take k) := by
      rw [sortI_mem]
      intro hm
      obtain ⟨i, hi, e⟩ := List.mem_iff_getElem.1 hm
      rw [List.length_take] at hi
      rw [List.getElem_take, nth_at hkl] at e
      exact List.pairwise_iff_getElem.1 hnd i k (by omega) hkl (by omega) e
    have hst : insI (nth l k) (sortI (l.take k)) = sortI (l.take (k + 1)) := by
      rw [sortI_snoc, List.take_succ_eq_append_getElem hkl, nth_at hkl]
    simp [hkl]
    refine ⟨_, l12Insert_spec _ _ (by simp; omega) _ hn, ?_⟩
    rw [hst]
    simp [wrap_id ((k : Int) + 1) (by omega) (by omega)]
    exact Round.mk (k + 1) (weak_mk (fun t => if t = 100 then some 17 else some t) (by simp) (by simp) rfl) hkl (by omega)
  · obtain rfl : k = l.length := by omega
    simp
theorem specMarkingsOf_spec (n1 n2 : Bool) (x : NetV) (hx : NetOk x) : ACalls1 Tryd.prog 118 [netSl n1 n2 x] (.tup [.own 1 false (ints (markingsOfV x).1), iv (markingsOfV x).2]) := by
  refine walk (fun t => t == 1) mixed Go.Proofs.Tryd.func118 rfl rfl rfl (by kernel_rfl) rfl (by simp) (by kernel_rfl) ?_
  simp
  refine ⟨_, l17Is_spec _ _ x.p x.pre x.post x.s hx.1, ?_⟩
  cases h : isNet x.p x.pre x.post x.s
  · simp [markingsOfV, h]
  · simp
    refine ⟨_, l17Reached_spec _ _ x h, ?_⟩
    obtain ⟨r, hr⟩ := reach_ok h
    have hle := hr.le
    have hk : (keys (reachV x)).length = (reachV x).length := keys_length _
    by_cases h2 : (reachV x).length ≤ 256
    · have hV : markingsOfV x = (sortI (keys (reachV x)), 0) := by unfold markingsOfV; rw [if_pos h, if_pos h2]
      simp [show ¬ (256 : Int) < ((reachV x).length : Int) by omega, show ((reachV x).length : Int) ≤ 256 by omega]
      refine ⟨_, l17Sorted_spec _ _ (by omega) hr.nd, ?_⟩
      simp [hV]
    · have hV : markingsOfV x = ([], 3) := by unfold markingsOfV; rw [if_pos h, if_neg h2]
      simp [show (256 : Int) < ((reachV x).length : Int) by omega, show ¬ ((reachV x).length : Int) ≤ 256 by omega, hV]
end Go.AM
