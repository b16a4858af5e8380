/-
  The law laws.FnStamps: for every input it returns true, and the input reads as it did, where the table math/bits.deBruijn64tab holds what the program lays: the statement Rows.FnStampsCardSaid.
  The condition on the table is tied to the text by the given tie; the project is a pruned copy.
-/
import Derived.Test.YtmpdpjpebekfkaaDoorRows
import Derived.Test.YtmpdpjpebekfkaaDoorCards
import Derived.Test.YtmpdpjpebekfkaaDoorTie
import Derived.Test.YtmpdpjpebekfkaaDoorAmRow
import Derived.Test.YtmpdpjpebekfkaaDoorFnGz
import Derived.Test.YtmpdpjpebekfkaaDoorFnSy
set_option linter.unusedVariables false
set_option linter.unusedSimpArgs false
set_option maxRecDepth 100000
set_option maxHeartbeats 1600000
namespace Go.AM
open Go.Proofs
theorem wn_nats (v : List Nat) : wn (nats v) = v := by
  unfold wn nats
  induction v with
  | nil => rfl
  | cons a v ih => simp only [List.map_cons, Int.toNat_natCast, ih]
theorem FnStamps_spec (nn : Bool) (l : List Int) (hl : CodeIn l) : ACalls1 Tryd.prog 5 [.sl 1 nn (bys l)] (bv true) := by
  refine walk (fun t => t == 7037 || t == 3045 || t == 3062 || t == 1141 || t == 2147 || t == 3148 || t == 3194 || t == 3202) mixed Go.Proofs.Tryd.func5 rfl rfl rfl (by kernel_rfl) rfl (by simp) (by kernel_rfl) ?_
  simp
  refine ⟨_, big_spec nn l, ?_⟩
  simp
  intro hb
  refine ⟨_, DrawStampsOf_spec nn l (bysOk_of hl (by omega)), ?_⟩
  rintro _ _ ⟨n, pl, w, ⟨n0, n4, p5, w15, hpi, hwi⟩, rfl, rfl⟩
  have hnI : I64 n := by unfold I64; omega
  have hpl : ListOk pl := ⟨by unfold Fits; omega, hpi⟩
  have hw : ListOk w := ⟨by unfold Fits; omega, hwi⟩
  simp
  refine ⟨_, StampsOf_spec n hnI _ pl hpl _ w hw, ?_⟩
  simp
  refine ⟨_, specStampsOf_spec n hnI _ pl hpl _ w hw, ?_⟩
  by_cases hc : gosCode n pl w [] = 0
  · have hg := gosW_ok hc
    obtain ⟨c1, c2, _⟩ := gosCode_zero hc
    obtain ⟨_, hn1, hn4⟩ := pl_len c1
    have hgp := gosW_past n pl w
    have hal := alphaP_ok c1
    have hdl : (alphaP pl).depends.length = pl.length := depP_length pl
    have hfl : (gosW n pl w).f = nf (alphaP pl).depends (wn w) := rfl
    have hfw := gosW_len hc
    have hpc : ∀ p : Nat, (p : Int) < n → gosCode n pl w [(p : Int)] = 0 := fun p hp => by
      unfold gosCode procOk; rw [c1, c2]; simp; omega
    have hSe : stampsOfV n pl w = (stampL (gosW n pl w), 0) := by unfold stampsOfV; rw [if_pos hc]
    rw [hSe]
    simp
    refine ⟨_, KnownCounts_spec n hnI _ pl hpl _ w hw, ?_⟩
    have hKe : knownCountsV n pl w = ((List.range n.toNat).map fun q => countL (gosW n pl w) (viewOn (gosW n pl w) (allOn (gosW n pl w)) q), 0) := by unfold knownCountsV; rw [if_pos hc]
    have hKl : ((List.range n.toNat).map fun q => countL (gosW n pl w) (viewOn (gosW n pl w) (allOn (gosW n pl w)) q)).length = n.toNat := by simp
    have hKn : ∀ q, q < n.toNat → nthR ((List.range n.toNat).map fun q => countL (gosW n pl w) (viewOn (gosW n pl w) (allOn (gosW n pl w)) q)) q = countL (gosW n pl w) (viewOn (gosW n pl w) (allOn (gosW n pl w)) q) := fun q hq => by
      rw [nthR_at (by simpa using hq)]; simp
    rw [hKe]
    generalize ((List.range n.toNat).map fun q => countL (gosW n pl w) (viewOn (gosW n pl w) (allOn (gosW n pl w)) q)) = K at *
    have hSl := stampL_length (gosW n pl w)
    have hSn : ∀ i, i < (gosW n pl w).f.length → nthR (stampL (gosW n pl w)) i = countL (gosW n pl w) (nth (gosW n pl w).past i) := fun i hi => stampL_nth hi
    generalize stampL (gosW n pl w) = S at *
    obtain ⟨N, rfl⟩ := Int.eq_ofNat_of_zero_le n0
    simp
    refine ⟨_, AlphabetOfPlaces_spec _ N pl c1, ?_⟩
    simp [hSl, hfw, hKl]
    refine ⟨_, normal9_spec _ _ (alphaP pl) hal w (by rw [hdl]; exact c2), ?_⟩
    rw [← hfl]
    simp
    obtain ⟨ew, huw, _⟩ := overW_wn c2
    have hlen := hg.len
    obtain ⟨_, _, _, hFc⟩ := gos_facts hg
    have hPB : ∀ (a b : Bool) (i : Nat), i < (gosW N pl w).f.length → ACalls1 Tryd.prog 32 [iv N, .sl 1 a (ints pl), .sl 1 b (ints w), iv i] (.tup [iv (nth (gosW N pl w).past i), iv 0]) := fun a b i hi => by
      have := PastByStamps_spec N hnI a pl hpl b w hw i (by unfold I64; omega)
      have e : pastByStampsV N pl w i = (nth (gosW N pl w).past i, 0) := by
        have hps := past_stamps hg hgp hi
        unfold pastByStampsV
        have h2 : (stampsOfV (N : Int) pl w) = (stampL (gosW N pl w), 0) := by unfold stampsOfV; rw [if_pos hc]
        rw [h2]
        rw [if_pos rfl, if_pos ⟨by omega, by omega⟩, show ((i : Int)).toNat = i from Int.toNat_natCast i, show ((N : Int)).toNat = (gosW N pl w).n.toNat from rfl, hps]
      rw [e] at this
      exact this
    have hPO : ∀ (a b : Bool) (i : Nat), i < (gosW N pl w).f.length → ACalls1 Tryd.prog 33 [alphaSl a (alphaP pl), .sl 1 b (ints w), iv i] (.tup [iv (nth (gosW N pl w).past i), iv 0]) := fun a b i hi => PastOf_yes a b N pl c1 w c2 i (by omega)
    have hVO : ∀ (a b : Bool) (p : Nat), p < N → ACalls1 Tryd.prog 37 [iv N, .sl 1 a (ints pl), .sl 1 b (ints w), iv p] (.tup [iv (viewOn (gosW N pl w) (allOn (gosW N pl w)) p), iv 0]) := fun a b p hp => by
      have := ViewOf_spec N hnI a pl hpl b w hw p (by unfold I64; omega)
      unfold viewOfV at this
      rw [if_pos (hpc p (by omega))] at this
      exact this
    have hLK : ∀ (a b : Bool) (p : Nat), p < N → ACalls1 Tryd.prog 24 [iv N, .sl 1 a (ints pl), .sl 1 b (ints w), iv p] (.tup [.own 1 false (ints (latL (gosW N pl w) (viewOn (gosW N pl w) (allOn (gosW N pl w)) p))), iv 0]) := fun a b p hp => by
      have := LatestKnown_spec N hnI a pl hpl b w hw p (by unfold I64; omega)
      unfold latestKnownV at this
      rw [if_pos (hpc p (by omega))] at this
      exact this
    have hSH : ∀ (a b : Bool) (p : Nat), p < N → ACalls1 Tryd.prog 38 [iv N, .sl 1 a (ints pl), .sl 1 b (ints w), iv p] (.tup [.own 1 false (orows true (secL (gosW N pl w) (viewOn (gosW N pl w) (allOn (gosW N pl w)) p))), iv 0]) := fun a b p hp => by
      have := SecondHand_spec N hnI a pl hpl b w hw p (by unfold I64; omega)
      unfold secondHandV at this
      rw [if_pos (hpc p (by omega))] at this
      exact this
    have hL9 : ∀ (a b : Bool) (set : Int) (q : Nat), M set → q < N → ACalls1 Tryd.prog 40 [.sl 1 a (ints pl), .sl 1 b (ints (nats (gosW N pl w).f)), iv set, iv q] (iv (lastOn (gosW N pl w) set q)) := fun a b set q hs hq =>
      last9_spec a b pl (gosW N pl w).f hg.f hlen (by omega) (fun i hi => (pl_mask c1 i hi).1) set hs q (by omega)
    have hmixS : ∀ v : List Nat, v.length = (wn w).length → (∀ c ∈ v, c < (alphaP pl).depends.length) → nf (alphaP pl).depends v = nf (alphaP pl).depends (wn w) → ∀ (a b : Bool), ACalls1 Tryd.prog 29 [iv N, .sl 1 a (ints pl), .sl 1 b (ints (nats v))] (.tup [.own 1 false (orows true S), iv 0]) := fun v hv1 hv2 hv3 a b => by
      have hwl : w.length = (wn w).length := by simp [wn]
      have hvo : overW pl.length (nats v) = true := by
        unfold overW
        simp only [nats_length, Bool.and_eq_true, decide_eq_true_eq, List.all_eq_true]
        refine ⟨by omega, fun y hy => ?_⟩
        obtain ⟨c, hc, rfl⟩ := List.mem_map.1 hy
        have := hv2 c hc
        omega
      have hcv : gosCode N pl (nats v) [] = 0 := by simp [gosCode, procOk, c1, hvo]
      have := StampsOf_spec N hnI a pl hpl b (nats v) ⟨by unfold Fits; simp; omega, fun y hy => by
        obtain ⟨c, hc, rfl⟩ := List.mem_map.1 hy
        have := hv2 c hc
        unfold I64; omega⟩
      have hwn : wn (nats v) = v := wn_nats v
      have e : stampsOfV N pl (nats v) = (S, 0) := by
        have h1 : gosW (N : Int) pl (nats v) = gosW N pl w := by
          unfold gosW gosV
          rw [hwn, show nf (depP pl) v = nf (depP pl) (wn w) from hv3]
        have h2 : (stampsOfV (N : Int) pl w) = (stampL (gosW N pl w), 0) := by unfold stampsOfV; rw [if_pos hc]
        rw [hSe] at h2
        unfold stampsOfV
        rw [if_pos hcv, h1]
        exact h2.symm
      rw [e] at this
      exact this
    have hgn : (gosW (N : Int) pl w).n.toNat = N := rfl
    have hgk : S.length = w.length := by omega
    generalize gosW (N : Int) pl w = g at *
    refine awp_loop2 [0, 3, 6, 10, 12] [] (fun i : Nat => [(15, iv i), (4, .sl 1 false (ints pl)), (5, .sl 1 false (ints w)), (14, .sl 1 true (ints (nats g.f)))]) (fun _ => [(12, .box [iv (alphaP pl).letters, .sl 1 false (ints (alphaP pl).depends)])]) (fun i => i ≤ g.f.length) (fun i => g.f.length - i) 0 (Weak.trans (weak_frz 38001 rfl (by simp)) (Weak.trans (weak_frz 38002 rfl (by simp)) (Weak.trans (weak_frz 84001001 rfl (by simp)) (Weak.trans (weak_frz 107 rfl (by simp)) (weak_mk some (by simp) (by simp) rfl))))) (by simp) ?_
    intro i hi
    by_cases hli : i < g.f.length
    · simp [hli]
      refine ⟨_, hPB _ _ i hli, ?_⟩
      simp
      refine ⟨_, hPO _ _ i hli, ?_⟩
      simp
      rw [wrap_id ((i : Int) + 1) (by omega) (by omega)]
      exact Round.mk (i + 1) (weak_mk some (by simp) (by simp) rfl) hli (by omega)
    · obtain rfl : i = g.f.length := by omega
      have hmx := fun a b => mixed9_spec nn l (roll0 151 l) (roll0_ok (bysOk_of hl (by omega))) a b (alphaP pl) hal (wn w) (fun c hc => by rw [hdl]; exact huw.2 c hc) (by omega)
      obtain ⟨_, hmx2, hmx3, hmx4⟩ := mixF_ok hal (l := l) 12 (s := roll0 151 l) (v := wn w) (roll0_ok (bysOk_of hl (by omega))) (fun c hc => by rw [hdl]; exact huw.2 c hc)
      have hst := hmixS _ hmx2 hmx3 hmx4
      rw [← ew] at hmx
      clear hmixS ew
      simp
      refine ⟨_, roll_spec nn l (bysOk_of hl (by omega)) 151 (by omega) (by omega), ?_⟩
      have hrs := roll0_ok (seed := 151) (bysOk_of hl (by omega))
      generalize hM9 : mixF (alphaP pl) l 12 (roll0 151 l) (wn w) = M9 at *
      generalize roll0 151 l = rs at *
      simp
      refine ⟨_, _, hmx _ _, ?_⟩
      simp
      refine ⟨_, hst _ _, ?_⟩
      simp
      first | refine ⟨⟨by kernel_rfl, by kernel_rfl⟩, ?_⟩ | exact ⟨by kernel_rfl, by kernel_rfl⟩
      clear hmx hst hmx2 hmx3 hmx4
      refine awp_loop2 [3, 4, 5, 6, 10, 12, 14, 20] [12] (fun k : Nat => [(22, iv k)]) (fun _ => []) (fun k => k ≤ S.length) (fun k => S.length - k) 0 (weak_mk some (by simp) (by simp) rfl) (by simp) ?_
      intro k hk
      by_cases hlk : k < S.length
      · have hrl := hSn k (by omega)
        have hrl2 : (nthR S k).length = N := by rw [hrl, countL_length, hgn]
        simp [hlk]
        repeat (rw [exE_eq]; simp [hlk])
        refine ⟨_, likeInts_same _ _ (nthR S k) (by omega), ?_⟩
        simp
        rw [wrap_id ((k : Int) + 1) (by omega) (by omega)]
        exact Round.mk (k + 1) (weak_mk some (by simp) (by simp) rfl) hlk (by omega)
      · obtain rfl : k = S.length := by omega
        simp
        refine awp_loop2 [3, 4, 5, 6, 10, 12, 14] [12] (fun p : Nat => [(23, iv p)]) (fun _ => []) (fun p => p ≤ N) (fun p => N - p) 0 (weak_mk some (by simp) (by simp) rfl) (by simp) ?_
        intro p hp
        by_cases hlp : p < N
        · simp [hlp]
          refine ⟨_, hVO _ _ p hlp, ?_⟩
          simp
          refine ⟨_, hLK _ _ p hlp, ?_⟩
          simp
          refine ⟨_, hSH _ _ p hlp, ?_⟩
          have hLl := latL_length g (viewOn g (allOn g) p)
          have hZl : (secL g (viewOn g (allOn g) p)).length = g.n.toNat := by simp [secL]
          have hLn : ∀ q, q < N → nth (latL g (viewOn g (allOn g) p)) q = lastOn g (viewOn g (allOn g) p) q := fun q hq => latL_nth (by omega)
          have hZn : ∀ q, q < N → nthR (secL g (viewOn g (allOn g) p)) q = latL g (pastOn g (lastOn g (viewOn g (allOn g) p) q)) := fun q hq => by
            rw [nthR_at (by rw [hZl]; omega)]; simp [secL]
          have hVM := (isM_spec (by omega) (viewOn_M hg (allOn g) p)).1
          have hbd := fun q => lastOn_bd g (viewOn g (allOn g) p) q
          have hyM := fun q => (isM_spec (by omega) (pastOn_M hg (hbd q).2)).1
          have hkp := known_past hg hgp p
          have hok := own_known hg hgp p
          have hKp := hKn p (by omega)
          rw [hgn] at hLl hZl
          have hKpl : (nthR K p).length = N := by rw [hKp, countL_length, hgn]
          have hpp : pastOn g (lastOn g (viewOn g (allOn g) p) p) = viewOn g (allOn g) p := by
            rcases hok with ⟨o1, o2⟩ | ⟨m, o1, o2, o3⟩
            · unfold pastOn; rw [if_pos o1, o2]
            · rw [o2, o3]; unfold pastOn; rw [if_neg (by omega)]; simp
          generalize viewOn g (allOn g) p = V at *
          generalize latL g V = L at *
          generalize secL g V = Z at *
          have hKl' : K.length = N := by simpa using hKl
          have hLp := hLn p hlp
          have hN1 : N ≤ 4 := by omega
          rcases hok with ⟨o1, o2⟩ | ⟨m, o1, o2, o3⟩
          · subst o2
            have h1 : nth L p < 0 := by omega
            have h2 : ¬ (S.length : Int) ≤ nth L p := by omega
            have h3 : ¬ 0 ≤ nth L p := by omega
            have hs0 := sum_zero true (nthR K p) (by omega) (fun i hi => by
              rw [hKpl] at hi
              rw [hKp, countL_nth (by omega), cnt_none (fun i _ => by simp)]; rfl)
            simp [hLl, hZl, hlp, h1, h2, h3, hKl']
            repeat (rw [exE_eq]; simp [hLl, hZl, hlp, h1, h2, h3, hKl'])
            refine ⟨_, hs0, ?_⟩
            simp [hLl, hZl, hlp, h1, h2, h3, hKl']
            repeat (rw [exE_eq]; simp [hLl, hZl, hlp, h1, h2, h3, hKl'])
            refine awp_loop2 [3, 4, 5, 6, 10, 12, 14, 23, 24, 26, 28] [12] (fun q : Nat => [(30, iv q)]) (fun _ => []) (fun q => q ≤ N) (fun q => N - q) 0 (weak_mk some (by simp) (by simp) rfl) (by simp) ?_
            intro q hq
            by_cases hlq : q < N
            · have e1 := hLn q hlq
              have b1 := hbd q
              have y1 := hyM q
              have k1 := hkp q
              have z1 := hZn q hlq
              have l1 := hL9 false true (0 : Int) q hVM hlq
              have p1 : q = p → pastOn g (lastOn g (0 : Int) q) = (0 : Int) := fun e => by rw [e]; exact hpp
              by_cases h0 : lastOn g (0 : Int) q < 0
              · have hy : pastOn g (lastOn g (0 : Int) q) = 0 := by unfold pastOn; rw [if_pos h0]
                rw [hy] at y1 k1 z1 p1
                simp [hlq, hLl, e1, h0, show ¬ 0 ≤ lastOn g (0 : Int) q by omega]
                refine ⟨_, l1, ?_⟩
                have zl : (nthR Z q).length = N := by rw [z1, latL_length, hgn]
                have zr : ∀ r, r < N → nth (nthR Z q) r = lastOn g (0 : Int) r := fun r hr => by rw [z1, latL_nth (by omega)]
                have hwq : IntKind.i64.wrap ((q : Int) + 1) = ((q + 1 : Nat) : Int) := by rw [wrap_id _ (by omega) (by omega)]; omega
                by_cases hqp : q = p
                · have p3 : ((0 : Int) = (0 : Int)) = True := eq_true (p1 hqp)
                  have p4 : ((0 : Int) = (0 : Int)) = True := eq_true (p1 hqp).symm
                  subst hqp
                  simp [hlq, hLl, hZl, e1, zl, k1, p3, p4]
                  repeat (rw [exE_eq]; simp [hlq, hLl, hZl, e1, zl, k1, p3, p4])
                  refine awp_loop2 [3, 4, 5, 6, 10, 12, 14, 23, 24, 26, 28, 30, 31] [12] (fun r : Nat => [(32, iv r)]) (fun _ => []) (fun r => r ≤ N) (fun r => N - r) 0 (weak_mk some (by simp) (by simp) rfl) (by simp) ?_
                  intro r hr
                  by_cases hlr : r < N
                  · have z2 := zr r hlr
                    have l2 := hL9 false true (0 : Int) r y1 hlr
                    simp [hlr, hlq, hLl, hZl, e1, zl, z2]
                    repeat (rw [exE_eq]; simp [hlr, hlq, hLl, hZl, e1, zl, z2])
                    refine ⟨_, l2, ?_⟩
                    simp
                    rw [wrap_id ((r : Int) + 1) (by omega) (by omega)]
                    exact Round.mk (r + 1) (weak_mk some (by simp) (by simp) rfl) hlr (by omega)
                  · obtain rfl : N = r := by omega
                    simp [hwq]
                    exact Round.mk (q + 1) (weak_mk some (by simp) (by simp) rfl) hlq (by omega)
                · have hqp' : ¬ (q : Int) = (p : Int) := by omega
                  simp [hlq, hLl, hZl, e1, zl, k1, hqp, hqp']
                  repeat (rw [exE_eq]; simp [hlq, hLl, hZl, e1, zl, k1, hqp, hqp'])
                  refine awp_loop2 [3, 4, 5, 6, 10, 12, 14, 23, 24, 26, 28, 30, 31] [12] (fun r : Nat => [(32, iv r)]) (fun _ => []) (fun r => r ≤ N) (fun r => N - r) 0 (weak_mk some (by simp) (by simp) rfl) (by simp) ?_
                  intro r hr
                  by_cases hlr : r < N
                  · have z2 := zr r hlr
                    have l2 := hL9 false true (0 : Int) r y1 hlr
                    simp [hlr, hlq, hLl, hZl, e1, zl, z2]
                    repeat (rw [exE_eq]; simp [hlr, hlq, hLl, hZl, e1, zl, z2])
                    refine ⟨_, l2, ?_⟩
                    simp
                    rw [wrap_id ((r : Int) + 1) (by omega) (by omega)]
                    exact Round.mk (r + 1) (weak_mk some (by simp) (by simp) rfl) hlr (by omega)
                  · obtain rfl : N = r := by omega
                    simp [hwq]
                    exact Round.mk (q + 1) (weak_mk some (by simp) (by simp) rfl) hlq (by omega)
              · obtain ⟨j, hj⟩ := Int.eq_ofNat_of_zero_le (show 0 ≤ lastOn g (0 : Int) q by omega)
                have hy : pastOn g (lastOn g (0 : Int) q) = nth g.past j := by unfold pastOn; rw [hj, if_neg (by omega)]; simp
                have hjl : j < g.f.length := by omega
                rw [hy] at y1 k1 z1 p1
                rw [hj] at e1 l1
                simp [hlq, hLl, e1]
                refine ⟨_, hPO _ _ j hjl, ?_⟩
                simp [hlq, hLl, e1]
                refine ⟨_, l1, ?_⟩
                have zl : (nthR Z q).length = N := by rw [z1, latL_length, hgn]
                have zr : ∀ r, r < N → nth (nthR Z q) r = lastOn g (nth g.past j) r := fun r hr => by rw [z1, latL_nth (by omega)]
                have hwq : IntKind.i64.wrap ((q : Int) + 1) = ((q + 1 : Nat) : Int) := by rw [wrap_id _ (by omega) (by omega)]; omega
                by_cases hqp : q = p
                · have p3 : ((nth g.past j) = (0 : Int)) = True := eq_true (p1 hqp)
                  have p4 : ((0 : Int) = (nth g.past j)) = True := eq_true (p1 hqp).symm
                  subst hqp
                  simp [hlq, hLl, hZl, e1, zl, k1, p3, p4]
                  repeat (rw [exE_eq]; simp [hlq, hLl, hZl, e1, zl, k1, p3, p4])
                  refine awp_loop2 [3, 4, 5, 6, 10, 12, 14, 23, 24, 26, 28, 30, 31] [12] (fun r : Nat => [(32, iv r)]) (fun _ => []) (fun r => r ≤ N) (fun r => N - r) 0 (weak_mk some (by simp) (by simp) rfl) (by simp) ?_
                  intro r hr
                  by_cases hlr : r < N
                  · have z2 := zr r hlr
                    have l2 := hL9 false true (nth g.past j) r y1 hlr
                    simp [hlr, hlq, hLl, hZl, e1, zl, z2]
                    repeat (rw [exE_eq]; simp [hlr, hlq, hLl, hZl, e1, zl, z2])
                    refine ⟨_, l2, ?_⟩
                    simp
                    rw [wrap_id ((r : Int) + 1) (by omega) (by omega)]
                    exact Round.mk (r + 1) (weak_mk some (by simp) (by simp) rfl) hlr (by omega)
                  · obtain rfl : N = r := by omega
                    simp [hwq]
                    exact Round.mk (q + 1) (weak_mk some (by simp) (by simp) rfl) hlq (by omega)
                · have hqp' : ¬ (q : Int) = (p : Int) := by omega
                  simp [hlq, hLl, hZl, e1, zl, k1, hqp, hqp']
                  repeat (rw [exE_eq]; simp [hlq, hLl, hZl, e1, zl, k1, hqp, hqp'])
                  refine awp_loop2 [3, 4, 5, 6, 10, 12, 14, 23, 24, 26, 28, 30, 31] [12] (fun r : Nat => [(32, iv r)]) (fun _ => []) (fun r => r ≤ N) (fun r => N - r) 0 (weak_mk some (by simp) (by simp) rfl) (by simp) ?_
                  intro r hr
                  by_cases hlr : r < N
                  · have z2 := zr r hlr
                    have l2 := hL9 false true (nth g.past j) r y1 hlr
                    simp [hlr, hlq, hLl, hZl, e1, zl, z2]
                    repeat (rw [exE_eq]; simp [hlr, hlq, hLl, hZl, e1, zl, z2])
                    refine ⟨_, l2, ?_⟩
                    simp
                    rw [wrap_id ((r : Int) + 1) (by omega) (by omega)]
                    exact Round.mk (r + 1) (weak_mk some (by simp) (by simp) rfl) hlr (by omega)
                  · obtain rfl : N = r := by omega
                    simp [hwq]
                    exact Round.mk (q + 1) (weak_mk some (by simp) (by simp) rfl) hlq (by omega)
            · obtain rfl : N = q := by omega
              simp
              rw [wrap_id ((p : Int) + 1) (by omega) (by omega)]
              exact Round.mk (p + 1) (weak_mk some (by simp) (by simp) rfl) hlp (by omega)
          · have h1 : nth L p = (m : Int) := by omega
            have h2 : ¬ (S.length : Int) ≤ (m : Int) := by omega
            have h3 : m < S.length := by omega
            have h5 : ¬ (m : Int) < 0 := by omega
            have hKS : nthR S m = nthR K p := by rw [hSn m o1, hKp, o3]
            simp [hLl, hZl, hlp, h1, h2, h3, h5, hKl', hKS]
            repeat (rw [exE_eq]; simp [hLl, hZl, hlp, h1, h2, h3, h5, hKl', hKS])
            refine ⟨_, likeInts_same _ _ (nthR K p) (by omega), ?_⟩
            simp [hLl, hZl, hlp, h1, h2, h3, h5, hKl', hKS]
            repeat (rw [exE_eq]; simp [hLl, hZl, hlp, h1, h2, h3, h5, hKl', hKS])
            refine awp_loop2 [3, 4, 5, 6, 10, 12, 14, 23, 24, 26, 28] [12] (fun q : Nat => [(30, iv q)]) (fun _ => []) (fun q => q ≤ N) (fun q => N - q) 0 (weak_mk some (by simp) (by simp) rfl) (by simp) ?_
            intro q hq
            by_cases hlq : q < N
            · have e1 := hLn q hlq
              have b1 := hbd q
              have y1 := hyM q
              have k1 := hkp q
              have z1 := hZn q hlq
              have l1 := hL9 false true V q hVM hlq
              have p1 : q = p → pastOn g (lastOn g V q) = V := fun e => by rw [e]; exact hpp
              by_cases h0 : lastOn g V q < 0
              · have hy : pastOn g (lastOn g V q) = 0 := by unfold pastOn; rw [if_pos h0]
                rw [hy] at y1 k1 z1 p1
                simp [hlq, hLl, e1, h0, show ¬ 0 ≤ lastOn g V q by omega]
                refine ⟨_, l1, ?_⟩
                have zl : (nthR Z q).length = N := by rw [z1, latL_length, hgn]
                have zr : ∀ r, r < N → nth (nthR Z q) r = lastOn g (0 : Int) r := fun r hr => by rw [z1, latL_nth (by omega)]
                have hwq : IntKind.i64.wrap ((q : Int) + 1) = ((q + 1 : Nat) : Int) := by rw [wrap_id _ (by omega) (by omega)]; omega
                by_cases hqp : q = p
                · have p3 : ((0 : Int) = V) = True := eq_true (p1 hqp)
                  have p4 : (V = (0 : Int)) = True := eq_true (p1 hqp).symm
                  subst hqp
                  simp [hlq, hLl, hZl, e1, zl, k1, p3, p4]
                  repeat (rw [exE_eq]; simp [hlq, hLl, hZl, e1, zl, k1, p3, p4])
                  refine awp_loop2 [3, 4, 5, 6, 10, 12, 14, 23, 24, 26, 28, 30, 31] [12] (fun r : Nat => [(32, iv r)]) (fun _ => []) (fun r => r ≤ N) (fun r => N - r) 0 (weak_mk some (by simp) (by simp) rfl) (by simp) ?_
                  intro r hr
                  by_cases hlr : r < N
                  · have z2 := zr r hlr
                    have l2 := hL9 false true (0 : Int) r y1 hlr
                    simp [hlr, hlq, hLl, hZl, e1, zl, z2]
                    repeat (rw [exE_eq]; simp [hlr, hlq, hLl, hZl, e1, zl, z2])
                    refine ⟨_, l2, ?_⟩
                    simp
                    rw [wrap_id ((r : Int) + 1) (by omega) (by omega)]
                    exact Round.mk (r + 1) (weak_mk some (by simp) (by simp) rfl) hlr (by omega)
                  · obtain rfl : N = r := by omega
                    simp [hwq]
                    exact Round.mk (q + 1) (weak_mk some (by simp) (by simp) rfl) hlq (by omega)
                · have hqp' : ¬ (q : Int) = (p : Int) := by omega
                  simp [hlq, hLl, hZl, e1, zl, k1, hqp, hqp']
                  repeat (rw [exE_eq]; simp [hlq, hLl, hZl, e1, zl, k1, hqp, hqp'])
                  refine awp_loop2 [3, 4, 5, 6, 10, 12, 14, 23, 24, 26, 28, 30, 31] [12] (fun r : Nat => [(32, iv r)]) (fun _ => []) (fun r => r ≤ N) (fun r => N - r) 0 (weak_mk some (by simp) (by simp) rfl) (by simp) ?_
                  intro r hr
                  by_cases hlr : r < N
                  · have z2 := zr r hlr
                    have l2 := hL9 false true (0 : Int) r y1 hlr
                    simp [hlr, hlq, hLl, hZl, e1, zl, z2]
                    repeat (rw [exE_eq]; simp [hlr, hlq, hLl, hZl, e1, zl, z2])
                    refine ⟨_, l2, ?_⟩
                    simp
                    rw [wrap_id ((r : Int) + 1) (by omega) (by omega)]
                    exact Round.mk (r + 1) (weak_mk some (by simp) (by simp) rfl) hlr (by omega)
                  · obtain rfl : N = r := by omega
                    simp [hwq]
                    exact Round.mk (q + 1) (weak_mk some (by simp) (by simp) rfl) hlq (by omega)
              · obtain ⟨j, hj⟩ := Int.eq_ofNat_of_zero_le (show 0 ≤ lastOn g V q by omega)
                have hy : pastOn g (lastOn g V q) = nth g.past j := by unfold pastOn; rw [hj, if_neg (by omega)]; simp
                have hjl : j < g.f.length := by omega
                rw [hy] at y1 k1 z1 p1
                rw [hj] at e1 l1
                simp [hlq, hLl, e1]
                refine ⟨_, hPO _ _ j hjl, ?_⟩
                simp [hlq, hLl, e1]
                refine ⟨_, l1, ?_⟩
                have zl : (nthR Z q).length = N := by rw [z1, latL_length, hgn]
                have zr : ∀ r, r < N → nth (nthR Z q) r = lastOn g (nth g.past j) r := fun r hr => by rw [z1, latL_nth (by omega)]
                have hwq : IntKind.i64.wrap ((q : Int) + 1) = ((q + 1 : Nat) : Int) := by rw [wrap_id _ (by omega) (by omega)]; omega
                by_cases hqp : q = p
                · have p3 : ((nth g.past j) = V) = True := eq_true (p1 hqp)
                  have p4 : (V = (nth g.past j)) = True := eq_true (p1 hqp).symm
                  subst hqp
                  simp [hlq, hLl, hZl, e1, zl, k1, p3, p4]
                  repeat (rw [exE_eq]; simp [hlq, hLl, hZl, e1, zl, k1, p3, p4])
                  refine awp_loop2 [3, 4, 5, 6, 10, 12, 14, 23, 24, 26, 28, 30, 31] [12] (fun r : Nat => [(32, iv r)]) (fun _ => []) (fun r => r ≤ N) (fun r => N - r) 0 (weak_mk some (by simp) (by simp) rfl) (by simp) ?_
                  intro r hr
                  by_cases hlr : r < N
                  · have z2 := zr r hlr
                    have l2 := hL9 false true (nth g.past j) r y1 hlr
                    simp [hlr, hlq, hLl, hZl, e1, zl, z2]
                    repeat (rw [exE_eq]; simp [hlr, hlq, hLl, hZl, e1, zl, z2])
                    refine ⟨_, l2, ?_⟩
                    simp
                    rw [wrap_id ((r : Int) + 1) (by omega) (by omega)]
                    exact Round.mk (r + 1) (weak_mk some (by simp) (by simp) rfl) hlr (by omega)
                  · obtain rfl : N = r := by omega
                    simp [hwq]
                    exact Round.mk (q + 1) (weak_mk some (by simp) (by simp) rfl) hlq (by omega)
                · have hqp' : ¬ (q : Int) = (p : Int) := by omega
                  simp [hlq, hLl, hZl, e1, zl, k1, hqp, hqp']
                  repeat (rw [exE_eq]; simp [hlq, hLl, hZl, e1, zl, k1, hqp, hqp'])
                  refine awp_loop2 [3, 4, 5, 6, 10, 12, 14, 23, 24, 26, 28, 30, 31] [12] (fun r : Nat => [(32, iv r)]) (fun _ => []) (fun r => r ≤ N) (fun r => N - r) 0 (weak_mk some (by simp) (by simp) rfl) (by simp) ?_
                  intro r hr
                  by_cases hlr : r < N
                  · have z2 := zr r hlr
                    have l2 := hL9 false true (nth g.past j) r y1 hlr
                    simp [hlr, hlq, hLl, hZl, e1, zl, z2]
                    repeat (rw [exE_eq]; simp [hlr, hlq, hLl, hZl, e1, zl, z2])
                    refine ⟨_, l2, ?_⟩
                    simp
                    rw [wrap_id ((r : Int) + 1) (by omega) (by omega)]
                    exact Round.mk (r + 1) (weak_mk some (by simp) (by simp) rfl) hlr (by omega)
                  · obtain rfl : N = r := by omega
                    simp [hwq]
                    exact Round.mk (q + 1) (weak_mk some (by simp) (by simp) rfl) hlq (by omega)
            · obtain rfl : N = q := by omega
              simp
              rw [wrap_id ((p : Int) + 1) (by omega) (by omega)]
              exact Round.mk (p + 1) (weak_mk some (by simp) (by simp) rfl) hlp (by omega)
        · obtain rfl : N = p := by omega
          simp
  · have hSe : stampsOfV n pl w = ([], gosCode n pl w []) := by unfold stampsOfV; rw [if_neg hc]
    rw [hSe]
    simp [hc]
    refine ⟨_, KnownCounts_spec n hnI _ pl hpl _ w hw, ?_⟩
    have hKe : knownCountsV n pl w = ([], gosCode n pl w []) := by unfold knownCountsV; rw [if_neg hc]
    rw [hKe]
    simp [hc]
namespace LawOf
theorem fnStamps (a : (Bool × List Int) × Unit) (h : (a.1.2.length ≤ maxLen ∧ ∀ x1 ∈ a.1.2, (Lit.int .u8 x1).wf = true) ∧ True) :
    ACalls1 Go.Proofs.Tryd.prog 5 [AV.sl 1 a.1.1 (a.1.2.flatMap fun y3 => [AV.val (.int .u8 y3)])] (bv true) := by
  obtain ⟨⟨nn, l⟩, _⟩ := a
  simp only [flat_bys]
  exact FnStamps_spec nn l h.1
end LawOf
end Go.AM
namespace Go.Proofs.YtmpdpjpebekfkaaDoor.fnStamps
open Go.ChangeShapes Go.WideShapes Go.ChangeAt Go.RowKit Go.AM
theorem own : ownKnob Tryd.prog.godebug = none := by kernel_rfl
theorem laidOut : laidOutB Tryd.prog = true := by kernel_rfl
theorem gN : Tryd.prog.globalNamed "math/bits.deBruijn64tab" = some 0 := by kernel_rfl
theorem gTy : (Tryd.prog.globals[0]?).map (·.type) = some 202 := by kernel_rfl
theorem gok (W : World) (h : laidMetH Tryd.prog [("math/bits.deBruijn64tab", Rows.laid_math_bits_deBruijn64tab)] W) : GOK Tryd.prog W (oldI W) := by
  rw [MakeChecks.laidMetH_plain _ _ _ (by kernel_rfl)] at h
  exact gok_tz gN (Lib.tabIs_of_head (rest := []) gN gTy Tryd.underlying202 Tryd.underlying5 (by kernel_rfl) (by kernel_rfl) h)
theorem door_met (os : Os) (args : Array Value) : laidMetH Tryd.prog [("math/bits.deBruijn64tab", Rows.laid_math_bits_deBruijn64tab)] ((World.doorLaid Tryd.prog 14 os).forCall (fun _ _ => 0) ⟨#[], args, []⟩).memory :=
  laidMetH_of_parts3 (fuel := 8) (laidMet_of_run' 8 (by kernel_rfl) (by kernel_rfl)) (by kernel_rfl) (by kernel_rfl)
theorem lifted (os : Os) (started : os.Started) (H : Type) (enc : TypeId × Value → H) :
    ReturnsInHanded {} Tryd.checked os 5 .any (fun w args => (Rows.fnStampsSpec.pre enc Tryd.prog Tryd.f5 [] false w args ∧ laidMetH Tryd.prog [("math/bits.deBruijn64tab", Rows.laid_math_bits_deBruijn64tab)] w) ∧ sizedMet enc Tryd.prog Tryd.f5 (OpenSpec.ofChange Rows.fnStampsSpec) false w args)
      (Rows.fnStampsSpec.post enc Tryd.prog Tryd.f5 false true false false) := by
  have hopen := (show OpensL Tryd.prog [40] _ _ from (opensL_cons (opensA_slice Tryd.underlying40 (opens_slice (n := 1) Tryd.underlying40 (by kernel_rfl) (opens_int (k := .u8) Tryd.underlying5) (fun _ => rfl))) opensL_nil))
  refine lift_laid (L := [("math/bits.deBruijn64tab", Rows.laid_math_bits_deBruijn64tab)]) (rt := 4) (C := Tryd.checked) (fn := Tryd.f5) hopen (fun a h => LawOf.fnStamps a h) gok ?_ own started Tryd.func5 rfl (by kernel_rfl) rfl Tryd.underlying4 laidOut (by kernel_rfl)
    (ChangeSpec.witness_shaped (enc := enc) (C := Tryd.checked) (os := os) (X := fun w _ => laidMetH Tryd.prog [("math/bits.deBruijn64tab", Rows.laid_math_bits_deBruijn64tab)] w) false (World.doorLaid Tryd.prog 14 os) #[(Value.slice none 0 0)] 8 rfl (World.shaped_of_RefB (by kernel_rfl) (by kernel_rfl)) (by kernel_rfl) (by kernel_rfl) (by kernel_rfl) (door_met os _))
  intro H ds hds
  match ds, hds with
  | [d0], _ => exact ⟨rfl, rfl, rfl⟩
theorem over : Rows.fnStampsRow.holds Tryd.pinned (OpenSpec.ofChange Rows.fnStampsSpec) :=
  OpenClaim.holds_of_wide 5 Tryd.f5 rfl rfl rfl rfl rfl rfl rfl ⟨rfl, rfl, rfl, rfl, rfl⟩ rfl rfl rfl rfl rfl (by kernel_rfl) Tryd.func5 (by kernel_rfl)
    (of_decide_eq_true (by kernel_rfl)) (by unfold Func.isWrapper; first | (rw [if_pos (by decide +kernel)]; kernel_rfl) | (rw [if_neg (by decide +kernel)]; exact ⟨rfl, rfl⟩))
    (fun os started H enc _ => lifted os started H enc)
end Go.Proofs.YtmpdpjpebekfkaaDoor.fnStamps
namespace Go.Proofs.YtmpdpjpebekfkaaDoor
/-- The card. -/
theorem fnStampsCard_holds : Rows.FnStampsCardSaid :=
  Claim7.holds_tied_plain_at .later [] [.data] true (true, "1d6496233a4ec3ec329a60a5d23141867875d9893b43087e1993e6d5bd6b4401") false fnStamps.over (fun _ h => by cases h) (by kernel_rfl) (fun _ h => by cases h) fnStamps_row_tie rfl ⟨rfl, rfl⟩ (by kernel_rfl) rfl
    (fun f fn hf hfn => by
      obtain rfl : f = 5 := Option.some.inj ((show Tryd.prog.funcNamed "loop.example/g01094/laws.FnStamps" = some 5 by kernel_rfl).symm.trans hf) |>.symm
      obtain rfl : fn = Tryd.f5 := (Option.some.inj (Tryd.func5.symm.trans hfn)).symm
      exact ⟨by kernel_rfl, fun j t ht => by
        rw [show Tryd.f5.params = #[40] by kernel_rfl] at ht
        have hm : t ∈ [40] := by simpa using Array.mem_of_getElem? ht
        have hall : ([40].all fun u => !Tryd.prog.wantsStandIn u) = true := by kernel_rfl
        exact (show Tryd.prog.wantsStandIn t = false by simpa using List.all_eq_true.1 hall t hm)⟩)
    (by kernel_rfl)
#print axioms fnStampsCard_holds
end Go.Proofs.YtmpdpjpebekfkaaDoor
