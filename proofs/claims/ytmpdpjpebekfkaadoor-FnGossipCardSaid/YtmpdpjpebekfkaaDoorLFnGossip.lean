/-
  The law laws.FnGossip: for every input it returns true, and the input reads as it did, where the table math/bits.deBruijn64tab holds what the program lays: the statement Rows.FnGossipCardSaid.
  The condition on the table is tied to the text by the given tie; the project is a pruned copy.
-/
import Derived.Test.YtmpdpjpebekfkaaDoorRows
import Derived.Test.YtmpdpjpebekfkaaDoorCards
import Derived.Test.YtmpdpjpebekfkaaDoorTie
import Derived.Test.YtmpdpjpebekfkaaDoorAmRow
import Derived.Test.YtmpdpjpebekfkaaDoorFnGz
import Derived.Test.YtmpdpjpebekfkaaDoorFnGm
set_option linter.unusedVariables false
set_option linter.unusedSimpArgs false
set_option maxRecDepth 100000
set_option maxHeartbeats 1600000
namespace Go.AM
open Go.Proofs
def cmpR (a b : Int) : Int := if a > b then 1 else if a < b then 2 else 0
theorem mulw {x y : Int} (h0 : 0 ≤ x) (h1 : x ≤ 1000) (h2 : 0 ≤ y) (h3 : y ≤ 4) : IntKind.i64.wrap (x * y) = x * y := by
  have h4 := Int.mul_nonneg h0 h2
  have h5 : x * y ≤ 1000 * 4 := Int.mul_le_mul h1 h3 h2 (by omega)
  exact wrap_id _ (by omega) (by omega)
theorem full_le15 {n : Nat} (h : n ≤ 4) : 0 ≤ full (n : Int) ∧ full (n : Int) ≤ 15 := by
  rw [full_eq (by omega)]
  have h1 : 2 ^ n ≤ 2 ^ 4 := Nat.pow_le_pow_right (by omega) h
  have h2 : 0 < 2 ^ n := Nat.pow_pos (by omega)
  omega
theorem FnGossip_spec (nn : Bool) (l : List Int) (hl : CodeIn l) : ACalls1 Tryd.prog 4 [.sl 1 nn (bys l)] (bv true) := by
  refine walk (fun t => t == 7034 || t == 3089) mixed Go.Proofs.Tryd.func4 rfl rfl rfl (by kernel_rfl) rfl (by simp) (by kernel_rfl) ?_
  simp
  refine ⟨_, big_spec nn l, ?_⟩
  simp
  intro hb
  refine ⟨_, DrawLabelsOf_spec nn l (bysOk_of hl (by omega)), ?_⟩
  rintro _ _ ⟨n, pl, w, ⟨n0, n4, p5, w15, hpi, hwi⟩, rfl, rfl⟩
  have hnI : I64 n := by unfold I64; omega
  have hpl : ListOk pl := ⟨by unfold Fits; omega, hpi⟩
  have hw : ListOk w := ⟨by unfold Fits; omega, hwi⟩
  simp
  refine ⟨_, LabelsOf_spec n hnI _ pl hpl _ w hw, ?_⟩
  simp
  refine ⟨_, specLabelsOf_spec n hnI _ pl hpl _ w hw, ?_⟩
  by_cases hc : gosCode n pl w [] = 0
  · have hg := gosW_ok hc
    obtain ⟨c1, c2, _⟩ := gosCode_zero hc
    obtain ⟨_, hn1, hn4⟩ := pl_len c1
    have hgp := gosW_past n pl w
    have hal := alphaP_ok c1
    have hdl : (alphaP pl).depends.length = pl.length := depP_length pl
    have hfl : (gosW n pl w).f = nf (alphaP pl).depends (wn w) := rfl
    have hlab := labL_length (gosW n pl w) (gosW n pl w).f.length
    have hpc : ∀ p : Nat, (p : Int) < n → gosCode n pl w [(p : Int)] = 0 := fun p hp => by
      unfold gosCode procOk; rw [c1, c2]; simp; omega
    have hpc3 : ∀ p q r : Nat, (p : Int) < n → (q : Int) < n → (r : Int) < n → gosCode n pl w [(p : Int), (q : Int), (r : Int)] = 0 := fun p q r hp hq hr => by
      unfold gosCode procOk; rw [c1, c2]; simp; omega
    unfold labelsOfV
    rw [if_pos hc]
    simp
    refine ⟨_, AlphabetOfPlaces_spec _ n pl c1, ?_⟩
    simp
    refine ⟨_, normal9_spec _ _ (alphaP pl) hal w (by rw [hdl]; exact c2), ?_⟩
    rw [← hfl]
    simp
    obtain ⟨N, rfl⟩ := Int.eq_ofNat_of_zero_le n0
    have hL24 := hg.len
    obtain ⟨_, _, _, hFc⟩ := gos_facts hg
    have hrow : ∀ p, ((fun p => latL (gosW N pl w) (viewOn (gosW N pl w) (allOn (gosW N pl w)) p)) p).length = N ∧ ∀ r, r < N → -1 ≤ nth ((fun p => latL (gosW N pl w) (viewOn (gosW N pl w) (allOn (gosW N pl w)) p)) p) r ∧ nth ((fun p => latL (gosW N pl w) (viewOn (gosW N pl w) (allOn (gosW N pl w)) p)) p) r < (gosW N pl w).f.length := fun p =>
      ⟨latL_length _ _, fun r hr => latL_bd r hr⟩
    have hLK : ∀ (a b : Bool) (p : Nat), p < N → ACalls1 Tryd.prog 24 [iv N, .sl 1 a (ints pl), .sl 1 b (ints w), iv p] (.tup [.own 1 false (ints ((fun p => latL (gosW N pl w) (viewOn (gosW N pl w) (allOn (gosW N pl w)) p)) p)), iv 0]) := fun a b p hp => by
      have := LatestKnown_spec N hnI a pl hpl b w hw p (by unfold I64; omega)
      unfold latestKnownV at this
      rw [if_pos (hpc p (by omega))] at this
      exact this
    have hNO : ∀ (a b : Bool) (p q r : Nat), p < N → q < N → r < N → ACalls1 Tryd.prog 26 [iv N, .sl 1 a (ints pl), .sl 1 b (ints w), iv p, iv q, iv r] (.tup [iv (cmpR (nth ((fun p => latL (gosW N pl w) (viewOn (gosW N pl w) (allOn (gosW N pl w)) p)) p) r) (nth ((fun p => latL (gosW N pl w) (viewOn (gosW N pl w) (allOn (gosW N pl w)) p)) q) r)), iv 0]) := fun a b p q r hp hq hr => by
      have := NewerOf_spec N hnI a pl hpl b w hw p (by unfold I64; omega) q (by unfold I64; omega) r (by unfold I64; omega)
      unfold newerOfV newerF at this
      rw [if_pos (hpc3 p q r (by omega) (by omega) (by omega))] at this
      simp only [cmpR]
      rw [latL_nth (g := gosW N pl w) (q := r) hr, latL_nth (g := gosW N pl w) (q := r) hr]
      exact this
    have hNB : ∀ (a b : Bool) (p q r : Nat), p < N → q < N → r < N → ACalls1 Tryd.prog 27 [iv N, .sl 1 a (ints pl), .sl 1 b (ints w), iv p, iv q, iv r] (.tup [iv (cmpR (nth ((fun p => latL (gosW N pl w) (viewOn (gosW N pl w) (allOn (gosW N pl w)) p)) p) r) (nth ((fun p => latL (gosW N pl w) (viewOn (gosW N pl w) (allOn (gosW N pl w)) p)) q) r)), iv 0]) := fun a b p q r hp hq hr => by
      have := NewerByLabels_spec N hnI a pl hpl b w hw p (by unfold I64; omega) q (by unfold I64; omega) r (by unfold I64; omega)
      unfold newerByLabelsV at this
      rw [if_pos (hpc3 p q r (by omega) (by omega) (by omega))] at this
      have e := newer_labels hg hgp (p := p) (q := q) (r := r) (by show (r : Int) < (N : Int); omega)
      simp only [Int.toNat_natCast] at this
      rw [show (gosW (N : Int) pl w).n.toNat = N from rfl] at e
      rw [e] at this
      unfold newerF at this
      simp only [cmpR]
      rw [latL_nth (g := gosW N pl w) (q := r) hr, latL_nth (g := gosW N pl w) (q := r) hr]
      exact this
    have hmk : ∀ p q s t, p < N → q < N → s < N → t < N → 0 ≤ nth ((fun p => latL (gosW N pl w) (viewOn (gosW N pl w) (allOn (gosW N pl w)) p)) p) s → 0 ≤ nth ((fun p => latL (gosW N pl w) (viewOn (gosW N pl w) (allOn (gosW N pl w)) p)) q) t → nth ((fun p => latL (gosW N pl w) (viewOn (gosW N pl w) (allOn (gosW N pl w)) p)) p) s ≠ nth ((fun p => latL (gosW N pl w) (viewOn (gosW N pl w) (allOn (gosW N pl w)) p)) q) t →
        nth (nats (gosW N pl w).f) (nth ((fun p => latL (gosW N pl w) (viewOn (gosW N pl w) (allOn (gosW N pl w)) p)) p) s).toNat = nth (nats (gosW N pl w).f) (nth ((fun p => latL (gosW N pl w) (viewOn (gosW N pl w) (allOn (gosW N pl w)) p)) q) t).toNat → nth (labL (gosW N pl w) (gosW N pl w).f.length) (nth ((fun p => latL (gosW N pl w) (viewOn (gosW N pl w) (allOn (gosW N pl w)) p)) p) s).toNat ≠ nth (labL (gosW N pl w) (gosW N pl w).f.length) (nth ((fun p => latL (gosW N pl w) (viewOn (gosW N pl w) (allOn (gosW N pl w)) p)) q) t).toNat := fun p q s t hp hq hs ht h1 h2 h3 h4 h5 => by
      have e1 : nth ((fun p => latL (gosW N pl w) (viewOn (gosW N pl w) (allOn (gosW N pl w)) p)) p) s = lastOn (gosW N pl w) (viewOn (gosW N pl w) (allOn (gosW N pl w)) p) s := latL_nth (by exact hs)
      have e2 : nth ((fun p => latL (gosW N pl w) (viewOn (gosW N pl w) (allOn (gosW N pl w)) p)) q) t = lastOn (gosW N pl w) (viewOn (gosW N pl w) (allOn (gosW N pl w)) q) t := latL_nth (by exact ht)
      have := mark_same hg hgp e1.symm e2.symm
      unfold markB at this
      rw [h4, h5] at this
      simp [h1, h2, h3] at this
    have hbit : ∀ k, k < (gosW N pl w).f.length → natAt (gosW N pl w).f k < pl.length ∧ nth (nats (gosW N pl w).f) k = (natAt (gosW N pl w).f k : Nat) ∧ 0 ≤ nth (labL (gosW N pl w) (gosW N pl w).f.length) k ∧ ∃ b : Nat, nth pl (natAt (gosW N pl w).f k) = b ∧ b ≤ 15 ∧ nth (labL (gosW N pl w) (gosW N pl w).f.length) k ≤ popc b * N * N := fun k hk => by
      obtain ⟨f1, f2, f3⟩ := hFc k hk
      obtain ⟨l1, l2⟩ := label_small hg hk
      have f1' : natAt (gosW N pl w).f k < pl.length := f1
      have hp1 := c1
      simp only [arePl, Bool.and_eq_true, decide_eq_true_eq, List.all_eq_true] at hp1
      have h9 := hp1.2 _ (nth_mem f1')
      have hfu := full_le15 (n := N) (by omega)
      refine ⟨f1, f3, l1, (nth pl (natAt (gosW N pl w).f k)).toNat, by omega, by omega, l2⟩
    generalize hRR : (fun p => latL (gosW N pl w) (viewOn (gosW N pl w) (allOn (gosW N pl w)) p)) = R at *
    generalize labL (gosW N pl w) (gosW N pl w).f.length = labs at *
    generalize (gosW N pl w).f = F at *
    clear hRR hfl hg hgp hpc hpc3 hFc
    refine awp_loop2 [3, 4, 5, 6, 12] [35001, 35002, 43000, 68] (fun p : Nat => [(14, iv p), (13, .ref 200)]) (fun p => [(200, .own 1 true (srows false ((List.range p).map R)))]) (fun p => p ≤ N) (fun p => N - p) 0 (weak_mk (fun t => if t = 200 then some 78 else some t) (by simp) (by simp) rfl) (by simp) ?_
    intro p hp
    by_cases hlt : p < N
    · obtain ⟨r1, r2⟩ := hrow p
      simp [hlt]
      refine ⟨_, hLK _ _ p hlt, ?_⟩
      simp [r1]
      refine awp_loop2 [3, 4, 5, 6, 12, 13, 14, 15] [35001, 35002, 43000, 68, 200] (fun q : Nat => [(17, iv q)]) (fun _ => []) (fun q => q ≤ N) (fun q => N - q) 0 (weak_mk some (by simp) (by simp) rfl) (by simp) ?_
      intro q hq
      by_cases hlq : q < N
      · obtain ⟨r3, r4⟩ := r2 q hlq
        simp [hlq, r1, show ¬ ((F.length : Int) ≤ nth (R p) q) by omega]
        rw [wrap_id ((q : Int) + 1) (by omega) (by omega)]
        exact Round.mk (q + 1) (weak_mk some (by simp) (by simp) rfl) hlq (by omega)
      · obtain rfl : N = q := by omega
        simp
        rw [wrap_id ((p : Int) + 1) (by omega) (by omega)]
        exact ⟨by omega, by omega, Round.mk (p + 1) (weak_mk (fun t => if t = 200 then some 115 else some t) (by simp) (by simp [List.range_succ]) rfl) hlt (by omega)⟩
    · obtain rfl : N = p := by omega
      have hrl : ((List.range N).map R).length = N := by simp
      have hrn : ∀ i, i < N → nthR ((List.range N).map R) i = R i := fun i hi => by rw [nthR_at (by simpa using hi)]; simp
      generalize (List.range N).map R = rs at *
      simp
      refine awp_loop2 [3, 4, 5, 6, 12, 13] [200, 35001, 35002, 43000, 68] (fun k : Nat => [(18, iv k)]) (fun _ => []) (fun k => k ≤ F.length) (fun k => F.length - k) 0 (weak_mk some (by simp) (by simp) rfl) (by simp) ?_
      intro k hk
      by_cases hlk : k < F.length
      · obtain ⟨f1, f3, l1, b, hb1, hb2, l2⟩ := hbit k hlk
        have hpb := popc_self b
        have w1 : IntKind.i64.wrap ((popc b : Int) * (N : Int)) = (popc b : Int) * (N : Int) := mulw (by omega) (by omega) (by omega) (by omega)
        have w0 : 0 ≤ (popc b : Int) * (N : Int) ∧ (popc b : Int) * (N : Int) ≤ 60 := ⟨Int.mul_nonneg (by omega) (by omega), Int.le_trans (Int.mul_le_mul (c := 15) (d := 4) (by omega) (by omega) (by omega) (by omega)) (by omega)⟩
        have w2 : IntKind.i64.wrap ((popc b : Int) * (N : Int) * (N : Int)) = (popc b : Int) * (N : Int) * (N : Int) := mulw (by omega) (by omega) (by omega) (by omega)
        have c1 : ¬ (pl.length : Int) ≤ (natAt F k : Int) := by omega
        have c2 : ¬ nth labs k < 0 := by omega
        have c3 : ¬ (popc b : Int) * (N : Int) * (N : Int) < nth labs k := by omega
        simp [hlk, f3, f1, hlab, hb1, show k + 1 ≤ F.length from hlk, show natAt F k + 1 ≤ pl.length from f1, c1, c2]
        repeat (rw [exE_eq]; simp [hlk, f3, f1, hlab, hb1, show k + 1 ≤ F.length from hlk, show natAt F k + 1 ≤ pl.length from f1, c1, c2])
        refine ⟨_, bits9_spec b (by omega), ?_⟩
        simp [hlk, f3, f1, hlab, w1, w2, c3]
        rw [wrap_id ((k : Int) + 1) (by omega) (by omega)]
        exact Round.mk (k + 1) (weak_mk some (by simp) (by simp) rfl) hlk (by omega)
      · obtain rfl : k = F.length := by omega
        simp
        refine awp_loop2 [3, 4, 5, 6, 12, 13] [200, 35001, 35002, 43000, 68] (fun i : Nat => [(19, iv i)]) (fun _ => []) (fun i => i ≤ N) (fun i => N - i) 0 (weak_mk some (by simp) (by simp) rfl) (by simp) ?_
        intro i hi
        by_cases hli : i < N
        · simp [hli]
          refine awp_loop2 [3, 4, 5, 6, 12, 13, 19] [200, 35001, 35002, 43000, 68] (fun j : Nat => [(20, iv j)]) (fun _ => []) (fun j => j ≤ N) (fun j => N - j) 0 (weak_mk some (by simp) (by simp) rfl) (by simp) ?_
          intro j hj
          by_cases hlj : j < N
          · simp [hlj]
            refine awp_loop2 [3, 4, 5, 6, 12, 13, 19, 20] [200, 35001, 35002, 43000, 68] (fun r : Nat => [(21, iv r)]) (fun _ => []) (fun r => r ≤ N) (fun r => N - r) 0 (weak_mk some (by simp) (by simp) rfl) (by simp) ?_
            intro r hr
            by_cases hlr : r < N
            · obtain ⟨a1, a2⟩ := hrow i
              obtain ⟨b1, b2⟩ := hrow j
              obtain ⟨a3, a4⟩ := a2 r hlr
              simp [hlr]
              refine awp_loop2 [3, 4, 5, 6, 12, 13, 19, 20, 21] [200, 35001, 35002, 43000, 68] (fun s : Nat => [(22, iv s)]) (fun _ => []) (fun s => s ≤ N) (fun s => N - s) 0 (weak_mk some (by simp) (by simp) rfl) (by simp) ?_
              intro s hs
              by_cases hls : s < N
              · obtain ⟨b3, b4⟩ := b2 s hls
                have hm := hmk i j r s hli hlj hlr hls
                have hss : IntKind.i64.wrap ((s : Int) + 1) = ((s + 1 : Nat) : Int) := by rw [wrap_id _ (by omega) (by omega)]; omega
                generalize he : nth (R i) r = e at *
                generalize hf : nth (R j) s = f at *
                by_cases h1 : 0 ≤ e
                · obtain ⟨x, rfl⟩ := Int.eq_ofNat_of_zero_le h1
                  by_cases h2 : 0 ≤ f
                  · obtain ⟨y, rfl⟩ := Int.eq_ofNat_of_zero_le h2
                    have hx : x < F.length := by omega
                    have hy : y < F.length := by omega
                    simp only [Int.toNat_natCast] at hm
                    by_cases h3 : x = y
                    · simp [hls, hli, hlj, hlr, hrl, hrn, a1, b1, he, hf, hss, show i + 1 ≤ N from hli, show j + 1 ≤ N from hlj, h3]
                      repeat (rw [exE_eq]; simp [hls, hli, hlj, hlr, hrl, hrn, a1, b1, he, hf, hss, show i + 1 ≤ N from hli, show j + 1 ≤ N from hlj, h3])
                      exact Round.mk (s + 1) (weak_mk some (by simp) (by simp) rfl) hls (by omega)
                    · have h3i : ¬ (x : Int) = (y : Int) := by omega
                      have hx1 : x + 1 ≤ F.length := hx
                      have hy1 : y + 1 ≤ F.length := hy
                      by_cases h4 : nth (nats F) x = nth (nats F) y
                      · have h5 := hm (by omega) (by omega) h3i h4
                        simp [hls, hli, hlj, hlr, hrl, hrn, a1, b1, he, hf, hss, show i + 1 ≤ N from hli, show j + 1 ≤ N from hlj, h3, h3i, h4, h5, hlab, hx, hy, hx1, hy1]
                        repeat (rw [exE_eq]; simp [hls, hli, hlj, hlr, hrl, hrn, a1, b1, he, hf, hss, show i + 1 ≤ N from hli, show j + 1 ≤ N from hlj, h3, h3i, h4, h5, hlab, hx, hy, hx1, hy1])
                        exact Round.mk (s + 1) (weak_mk some (by simp) (by simp) rfl) hls (by omega)
                      · simp [hls, hli, hlj, hlr, hrl, hrn, a1, b1, he, hf, hss, show i + 1 ≤ N from hli, show j + 1 ≤ N from hlj, h3, h3i, h4, hlab, hx, hy, hx1, hy1]
                        repeat (rw [exE_eq]; simp [hls, hli, hlj, hlr, hrl, hrn, a1, b1, he, hf, hss, show i + 1 ≤ N from hli, show j + 1 ≤ N from hlj, h3, h3i, h4, hlab, hx, hy, hx1, hy1])
                        exact Round.mk (s + 1) (weak_mk some (by simp) (by simp) rfl) hls (by omega)
                  · simp [hls, hli, hlj, hlr, hrl, hrn, a1, b1, he, hf, hss, show i + 1 ≤ N from hli, show j + 1 ≤ N from hlj, h2]
                    repeat (rw [exE_eq]; simp [hls, hli, hlj, hlr, hrl, hrn, a1, b1, he, hf, hss, show i + 1 ≤ N from hli, show j + 1 ≤ N from hlj, h2])
                    exact Round.mk (s + 1) (weak_mk some (by simp) (by simp) rfl) hls (by omega)
                · simp [hls, hli, hlj, hlr, hrl, hrn, a1, b1, he, hf, hss, show i + 1 ≤ N from hli, show j + 1 ≤ N from hlj, h1]
                  repeat (rw [exE_eq]; simp [hls, hli, hlj, hlr, hrl, hrn, a1, b1, he, hf, hss, show i + 1 ≤ N from hli, show j + 1 ≤ N from hlj, h1])
                  exact Round.mk (s + 1) (weak_mk some (by simp) (by simp) rfl) hls (by omega)
              · obtain rfl : N = s := by omega
                simp
                refine ⟨_, hNO _ _ i j r hli hlj hlr, ?_⟩
                simp
                refine ⟨_, hNB _ _ i j r hli hlj hlr, ?_⟩
                simp
                simp [hli, hlj, hlr, hrl, hrn, a1, b1]
                rw [wrap_id ((r : Int) + 1) (by omega) (by omega)]
                refine ⟨hli, hlj, fun h1 => ⟨?_, fun _ => ?_⟩, fun h1 => ⟨hli, hlj, fun h2 => ⟨?_, fun _ => ?_⟩, fun h2 => ⟨?_, fun _ => ?_⟩⟩⟩
                · unfold cmpR; rw [if_pos (by omega)]
                · exact Round.mk (r + 1) (weak_mk some (by simp) (by simp) rfl) hlr (by omega)
                · unfold cmpR; rw [if_neg (by omega), if_pos (by omega)]
                · exact Round.mk (r + 1) (weak_mk some (by simp) (by simp) rfl) hlr (by omega)
                · unfold cmpR; rw [if_neg (by omega), if_neg (by omega)]
                · exact Round.mk (r + 1) (weak_mk some (by simp) (by simp) rfl) hlr (by omega)
            · obtain rfl : N = r := by omega
              simp
              rw [wrap_id ((j : Int) + 1) (by omega) (by omega)]
              exact Round.mk (j + 1) (weak_mk some (by simp) (by simp) rfl) hlj (by omega)
          · obtain rfl : N = j := by omega
            simp
            rw [wrap_id ((i : Int) + 1) (by omega) (by omega)]
            exact Round.mk (i + 1) (weak_mk some (by simp) (by simp) rfl) hli (by omega)
        · obtain rfl : N = i := by omega
          simp
  · unfold labelsOfV
    rw [if_neg hc]
    simp [hc]
namespace LawOf
theorem fnGossip (a : (Bool × List Int) × Unit) (h : (a.1.2.length ≤ maxLen ∧ ∀ x1 ∈ a.1.2, (Lit.int .u8 x1).wf = true) ∧ True) :
    ACalls1 Go.Proofs.Tryd.prog 4 [AV.sl 1 a.1.1 (a.1.2.flatMap fun y3 => [AV.val (.int .u8 y3)])] (bv true) := by
  obtain ⟨⟨nn, l⟩, _⟩ := a
  simp only [flat_bys]
  exact FnGossip_spec nn l h.1
end LawOf
end Go.AM
namespace Go.Proofs.YtmpdpjpebekfkaaDoor.fnGossip
open Go.ChangeShapes Go.WideShapes Go.ChangeAt Go.RowKit Go.AM
theorem own : ownKnob Tryd.prog.godebug = none := by kernel_rfl
theorem laidOut : laidOutB Tryd.prog = true := by kernel_rfl
theorem gN : Tryd.prog.globalNamed "math/bits.deBruijn64tab" = some 0 := by kernel_rfl
theorem gTy : (Tryd.prog.globals[0]?).map (·.type) = some 202 := by kernel_rfl
theorem gok (W : World) (h : laidMetH Tryd.prog [("math/bits.deBruijn64tab", Rows.laid_math_bits_deBruijn64tab)] W) : GOK Tryd.prog W (oldI W) := by
  rw [MakeChecks.laidMetH_plain _ _ _ (by kernel_rfl)] at h
  exact gok_tz gN (Lib.tabIs_of_head (rest := []) gN gTy Tryd.underlying202 Tryd.underlying5 (by kernel_rfl) (by kernel_rfl) h)
theorem door_met (os : Os) (args : Array Value) : laidMetH Tryd.prog [("math/bits.deBruijn64tab", Rows.laid_math_bits_deBruijn64tab)] ((World.doorLaid Tryd.prog 14 os).forCall (fun _ _ => 0) ⟨#[], args, []⟩).memory :=
  laidMetH_of_parts3 (fuel := 8) (laidMet_of_run' 8 (by kernel_rfl) (by kernel_rfl)) (by kernel_rfl) (by kernel_rfl)
theorem lifted (os : Os) (started : os.Started) (H : Type) (enc : TypeId × Value → H) :
    ReturnsInHanded {} Tryd.checked os 4 .any (fun w args => (Rows.fnGossipSpec.pre enc Tryd.prog Tryd.f4 [] false w args ∧ laidMetH Tryd.prog [("math/bits.deBruijn64tab", Rows.laid_math_bits_deBruijn64tab)] w) ∧ sizedMet enc Tryd.prog Tryd.f4 (OpenSpec.ofChange Rows.fnGossipSpec) false w args)
      (Rows.fnGossipSpec.post enc Tryd.prog Tryd.f4 false true false false) := by
  have hopen := (show OpensL Tryd.prog [40] _ _ from (opensL_cons (opensA_slice Tryd.underlying40 (opens_slice (n := 1) Tryd.underlying40 (by kernel_rfl) (opens_int (k := .u8) Tryd.underlying5) (fun _ => rfl))) opensL_nil))
  refine lift_laid (L := [("math/bits.deBruijn64tab", Rows.laid_math_bits_deBruijn64tab)]) (rt := 4) (C := Tryd.checked) (fn := Tryd.f4) hopen (fun a h => LawOf.fnGossip a h) gok ?_ own started Tryd.func4 rfl (by kernel_rfl) rfl Tryd.underlying4 laidOut (by kernel_rfl)
    (ChangeSpec.witness_shaped (enc := enc) (C := Tryd.checked) (os := os) (X := fun w _ => laidMetH Tryd.prog [("math/bits.deBruijn64tab", Rows.laid_math_bits_deBruijn64tab)] w) false (World.doorLaid Tryd.prog 14 os) #[(Value.slice none 0 0)] 8 rfl (World.shaped_of_RefB (by kernel_rfl) (by kernel_rfl)) (by kernel_rfl) (by kernel_rfl) (by kernel_rfl) (door_met os _))
  intro H ds hds
  match ds, hds with
  | [d0], _ => exact ⟨rfl, rfl, rfl⟩
theorem over : Rows.fnGossipRow.holds Tryd.pinned (OpenSpec.ofChange Rows.fnGossipSpec) :=
  OpenClaim.holds_of_wide 4 Tryd.f4 rfl rfl rfl rfl rfl rfl rfl ⟨rfl, rfl, rfl, rfl, rfl⟩ rfl rfl rfl rfl rfl (by kernel_rfl) Tryd.func4 (by kernel_rfl)
    (of_decide_eq_true (by kernel_rfl)) (by unfold Func.isWrapper; first | (rw [if_pos (by decide +kernel)]; kernel_rfl) | (rw [if_neg (by decide +kernel)]; exact ⟨rfl, rfl⟩))
    (fun os started H enc _ => lifted os started H enc)
end Go.Proofs.YtmpdpjpebekfkaaDoor.fnGossip
namespace Go.Proofs.YtmpdpjpebekfkaaDoor
/-- The card. -/
theorem fnGossipCard_holds : Rows.FnGossipCardSaid :=
  Claim7.holds_tied_plain_at .later [] [.data] true (true, "1d6496233a4ec3ec329a60a5d23141867875d9893b43087e1993e6d5bd6b4401") false fnGossip.over (fun _ h => by cases h) (by kernel_rfl) (fun _ h => by cases h) fnGossip_row_tie rfl ⟨rfl, rfl⟩ (by kernel_rfl) rfl
    (fun f fn hf hfn => by
      obtain rfl : f = 4 := Option.some.inj ((show Tryd.prog.funcNamed "loop.example/g01094/laws.FnGossip" = some 4 by kernel_rfl).symm.trans hf) |>.symm
      obtain rfl : fn = Tryd.f4 := (Option.some.inj (Tryd.func4.symm.trans hfn)).symm
      exact ⟨by kernel_rfl, fun j t ht => by
        rw [show Tryd.f4.params = #[40] by kernel_rfl] at ht
        have hm : t ∈ [40] := by simpa using Array.mem_of_getElem? ht
        have hall : ([40].all fun u => !Tryd.prog.wantsStandIn u) = true := by kernel_rfl
        exact (show Tryd.prog.wantsStandIn t = false by simpa using List.all_eq_true.1 hall t hm)⟩)
    (by kernel_rfl)
#print axioms fnGossipCard_holds
end Go.Proofs.YtmpdpjpebekfkaaDoor
