/-
  Last events, pasts, views; what is newest.
-/
import Derived.Test.YtmpdpjpebekfkaaDoorFnGe
import Derived.Test.YtmpdpjpebekfkaaDoorFnM
set_option linter.unusedVariables false
set_option linter.unusedSimpArgs false
set_option maxRecDepth 100000
set_option maxHeartbeats 1600000
namespace Go.AM
open Go.Proofs
/-- The last place that passes. -/
def lastB (T : Nat → Bool) : Nat → Int
  | 0 => -1
  | k + 1 => if T k then k else lastB T k
theorem lastB_bd (T : Nat → Bool) : ∀ k, -1 ≤ lastB T k ∧ lastB T k < k
  | 0 => by simp [lastB]
  | k + 1 => by
    have := lastB_bd T k
    rw [lastB]; split <;> omega
def lastL (T : Nat → Bool) (L : List Int) : Nat → Int
  | 0 => -1
  | k + 1 => if T (nth L k).toNat then nth L k else lastL T L k
theorem lastL_append (T : Nat → Bool) (L M : List Int) : ∀ k, k ≤ L.length → lastL T (L ++ M) k = lastL T L k
  | 0, _ => rfl
  | k + 1, h => by
    have e : nth (L ++ M) k = nth L k := by
      rw [nth_at (by simp; omega), nth_at (by omega), List.getElem_append_left (by omega)]
    rw [lastL, lastL, lastL_append T L M k (by omega), e]
theorem lastL_filter (T q : Nat → Bool) : ∀ n, lastL T (((List.range n).filter q).map fun (e : Nat) => (e : Int)) ((List.range n).filter q).length = lastB (fun i => q i && T i) n
  | 0 => rfl
  | n + 1 => by
    have ih := lastL_filter T q n
    rw [List.range_succ, List.filter_append, lastB]
    cases hq : q n
    · simp [hq, ih]
    · simp only [List.filter_cons, hq, if_true, List.filter_nil, List.map_append, List.map_cons, List.map_nil, List.length_append, List.length_cons, List.length_nil, Nat.zero_add, Bool.true_and]
      rw [lastL, lastL_append _ _ _ _ (by simp), ih]
      have e : nth (((List.range n).filter q).map (fun (e : Nat) => (e : Int)) ++ [(n : Int)]) ((List.range n).filter q).length = n := by
        rw [nth_at (by simp), List.getElem_append_right (by simp)]; simp
      rw [e]; simp
def lastOn (g : GosV) (m : Int) (p : Nat) : Int := lastB (fun i => tb m i && tb (nth g.pl (natAt g.f i)) p) g.f.length
def pastOn (g : GosV) (i : Int) : Int := if i < 0 then 0 else nth g.past i.toNat
def viewOn (g : GosV) (m : Int) (p : Nat) : Int := pastOn g (lastOn g m p)
def allOn (g : GosV) : Int := full g.f.length
def latL (g : GosV) (m : Int) : List Int := (List.range g.n.toNat).map fun q => lastOn g m q
theorem lastOn_bd (g : GosV) (m : Int) (p : Nat) : -1 ≤ lastOn g m p ∧ lastOn g m p < g.f.length := lastB_bd _ _
theorem pastOn_M {g : GosV} (hg : GosOk g) {i : Int} (h : i < g.f.length) : isM g.f.length (pastOn g i) = true := by
  unfold pastOn
  split
  · exact isM_of (by have := hg.len; omega) M_zero (by simp)
  · exact hg.past _ (by omega)
theorem viewOn_M {g : GosV} (hg : GosOk g) (m : Int) (p : Nat) : isM g.f.length (viewOn g m p) = true := pastOn_M hg (lastOn_bd g m p).2
theorem allOn_M {g : GosV} (hg : GosOk g) : isM g.f.length (allOn g) = true := by
  have := hg.len
  unfold isM allOn
  rw [full_eq (by omega)]
  simp
@[simp] theorem latL_length (g : GosV) (m : Int) : (latL g m).length = g.n.toNat := by simp [latL]
theorem latL_nth {g : GosV} {m : Int} {q : Nat} (h : q < g.n.toNat) : nth (latL g m) q = lastOn g m q := by
  rw [nth_at (by simpa using h)]; simp [latL]
theorem gos_facts {g : GosV} (hg : GosOk g) : g.pl.length ≤ 8 ∧ 1 ≤ g.n ∧ g.n ≤ 4 ∧ ∀ i, i < g.f.length → natAt g.f i < g.pl.length ∧ M (nth g.pl (natAt g.f i)) ∧ nth (nats g.f) i = (natAt g.f i : Nat) := by
  obtain ⟨h8, h1, h4⟩ := pl_len hg.pl
  exact ⟨h8, h1, h4, fun i hi => ⟨hg.f _ (natAt_mem hi), (pl_mask hg.pl _ (hg.f _ (natAt_mem hi))).1, nats_nth hi⟩⟩
theorem lastIn_spec (a b c : Bool) (g : GosV) (hg : GosOk g) (m : Int) (hm : isM g.f.length m = true) (p : Nat) (hp : p < 63) : ACalls1 Tryd.prog 137 [gosSl a b c g, iv m, iv p] (iv (lastOn g m p)) := by
  have hlen := hg.len
  obtain ⟨hM, hb⟩ := isM_spec (by omega) hm
  obtain ⟨h8, h1, h4, hF⟩ := gos_facts hg
  have hBl := bitsOf_length m
  have hE : lastOn g m p = lastL (fun i => tb (nth g.pl (natAt g.f i)) p) (bitsOf m) (bitsOf m).length := by
    have := lastL_filter (fun i => tb (nth g.pl (natAt g.f i)) p) (fun i => tb m i) g.f.length
    unfold lastOn
    rw [← this, ← bits_eq (by omega) hb]
    congr 1
    rw [bits_eq (by omega) hb]; simp
  refine walk (fun t => t == 3 || t == 3010) mixed Go.Proofs.Tryd.func137 rfl rfl rfl (by kernel_rfl) rfl (by simp) (by kernel_rfl) ?_
  simp
  refine ⟨_, members_spec m hM, ?_⟩
  simp
  refine awp_loop2 [2, 3, 7] [] (fun k : Nat => [(8, iv ((k : Int) - 1))]) (fun _ => []) (fun k => k ≤ (bitsOf m).length ∧ lastOn g m p = lastL (fun i => tb (nth g.pl (natAt g.f i)) p) (bitsOf m) k) (fun k => k) (bitsOf m).length (weak_mk some (by simp; exact wrap_id _ (by omega) (by omega)) (by simp) rfl) ⟨Nat.le_refl _, hE⟩ ?_
  rintro k ⟨hk, hv⟩
  cases k with
  | zero => simp; simp [hv, lastL]
  | succ j =>
    have e : ((j + 1 : Nat) : Int) - 1 = j := by omega
    obtain ⟨i, e1, hi, ht⟩ := bits_nth (m := m) (j := j) (by omega)
    have hi' : i < g.f.length := by
      by_cases hx : i < g.f.length
      · exact hx
      · rw [hb i (by omega)] at ht; simp at ht
    obtain ⟨f1, f2, f3⟩ := hF i hi'
    rw [lastL, e1, Int.toNat_natCast] at hv
    rw [e]
    simp [e1, hi', f1, f3, show j < (bitsOf m).length from hk]
    repeat (rw [exE_eq]; simp [e1, hi', f1, f3, show j < (bitsOf m).length from hk])
    refine ⟨_, has_spec _ f2 p (by omega), ?_⟩
    cases hb2 : tb (nth g.pl (natAt g.f i)) p
    · rw [hb2] at hv
      simp [wrap_id ((j : Int) - 1) (by omega) (by omega)]
      exact Round.mk j (weak_mk some (by simp) (by simp) rfl) ⟨by omega, by simpa using hv⟩ (by omega)
    · rw [hb2] at hv
      simp [e1, show j < (bitsOf m).length from hk]
      simpa using hv.symm
theorem l15Last_spec (a b c : Bool) (g : GosV) (hg : GosOk g) (m : Int) (hm : isM g.f.length m = true) (p : Nat) (hp : p < 63) : ACalls1 Tryd.prog 167 [gosSl a b c g, iv m, iv p] (iv (lastOn g m p)) := by
  have hlen := hg.len
  obtain ⟨hM, hb⟩ := isM_spec (by omega) hm
  obtain ⟨h8, h1, h4, hF⟩ := gos_facts hg
  refine walk (fun t => t == 3) mixed Go.Proofs.Tryd.func167 rfl rfl rfl (by kernel_rfl) rfl (by simp) (by kernel_rfl) ?_
  simp
  refine awp_loop2 [1, 2, 3] [] (fun k : Nat => [(7, iv ((k : Int) - 1))]) (fun _ => []) (fun k => k ≤ g.f.length ∧ lastOn g m p = lastB (fun i => tb m i && tb (nth g.pl (natAt g.f i)) p) k) (fun k => k) g.f.length (weak_mk some (by simp; exact wrap_id _ (by omega) (by omega)) (by simp) rfl) ⟨Nat.le_refl _, rfl⟩ ?_
  rintro k ⟨hk, hv⟩
  cases k with
  | zero => simp; simp [hv, lastB]
  | succ j =>
    have e : ((j + 1 : Nat) : Int) - 1 = j := by omega
    obtain ⟨f1, f2, f3⟩ := hF j (by omega)
    have hj : j < g.f.length := by omega
    rw [lastB] at hv
    rw [e]
    simp
    refine ⟨_, l01Bit_spec _ hM j (by omega), ?_⟩
    cases hb1 : tb m j
    · rw [hb1] at hv
      simp [wrap_id ((j : Int) - 1) (by omega) (by omega)]
      repeat (rw [exE_eq]; simp [wrap_id ((j : Int) - 1) (by omega) (by omega)])
      exact Round.mk j (weak_mk some (by simp) (by simp) rfl) ⟨by omega, by simpa using hv⟩ (by omega)
    · simp [f1, f3, hj]
      repeat (rw [exE_eq]; simp [f1, f3, hj])
      refine ⟨_, l01Bit_spec _ f2 p (by omega), ?_⟩
      cases hb2 : tb (nth g.pl (natAt g.f j)) p
      · rw [hb1, hb2] at hv
        simp [wrap_id ((j : Int) - 1) (by omega) (by omega)]
        exact Round.mk j (weak_mk some (by simp) (by simp) rfl) ⟨by omega, by simpa using hv⟩ (by omega)
      · rw [hb1, hb2] at hv
        simp
        simpa using hv.symm
theorem pastOf_spec (a b c : Bool) (g : GosV) (hg : GosOk g) (i : Int) (h : -1 ≤ i) (h' : i < g.f.length) : ACalls1 Tryd.prog 138 [gosSl a b c g, iv i] (iv (pastOn g i)) := by
  have hlen := hg.plen
  refine walk (fun t => t == 2) mixed Go.Proofs.Tryd.func138 rfl rfl rfl (by kernel_rfl) rfl (by simp) (by kernel_rfl) ?_
  simp
  unfold pastOn
  by_cases h0 : i < 0
  · simp [h0]
    try (intro _; omega)
  · obtain ⟨k, rfl⟩ := Int.eq_ofNat_of_zero_le (show 0 ≤ i by omega)
    simp [h0, show k < g.past.length by omega]
theorem l15PastOf_spec (a b c : Bool) (g : GosV) (hg : GosOk g) (i : Int) (h : -1 ≤ i) (h' : i < g.f.length) : ACalls1 Tryd.prog 166 [gosSl a b c g, iv i] (iv (pastOn g i)) := by
  have hlen := hg.plen
  refine walk (fun t => t == 2) mixed Go.Proofs.Tryd.func166 rfl rfl rfl (by kernel_rfl) rfl (by simp) (by kernel_rfl) ?_
  simp
  unfold pastOn
  by_cases h0 : i < 0
  · simp [h0]
    try (intro _; omega)
  · obtain ⟨k, rfl⟩ := Int.eq_ofNat_of_zero_le (show 0 ≤ i by omega)
    simp [h0, show k < g.past.length by omega]
theorem viewIn_spec (a b c : Bool) (g : GosV) (hg : GosOk g) (m : Int) (hm : isM g.f.length m = true) (p : Nat) (hp : p < 63) : ACalls1 Tryd.prog 80 [gosSl a b c g, iv m, iv p] (iv (viewOn g m p)) := by
  refine walk (fun t => t == 3) mixed Go.Proofs.Tryd.func80 rfl rfl rfl (by kernel_rfl) rfl (by simp) (by kernel_rfl) ?_
  simp
  refine ⟨_, lastIn_spec a b c g hg m hm p hp, ?_⟩
  simp
  refine ⟨_, pastOf_spec a b c g hg _ (lastOn_bd g m p).1 (lastOn_bd g m p).2, ?_⟩
  simp [viewOn]
theorem l15View_spec (a b c : Bool) (g : GosV) (hg : GosOk g) (k : Nat) (hk : k ≤ g.f.length) (p : Nat) (hp : p < 63) : ACalls1 Tryd.prog 131 [gosSl a b c g, iv k, iv p] (iv (viewOn g (full k) p)) := by
  have hlen := hg.len
  have hm : isM g.f.length (full k) = true := isM_of (by omega) (full_M (n := k) (by omega) (by rw [full_eq (by omega)]; omega) (Int.le_refl _)) fun i hi => by rw [tb_full (by omega)]; simp; omega
  refine walk (fun t => t == 3) mixed Go.Proofs.Tryd.func131 rfl rfl rfl (by kernel_rfl) rfl (by simp) (by kernel_rfl) ?_
  simp
  refine ⟨_, l01Full_spec k (by unfold I64; omega), ?_⟩
  simp
  refine ⟨_, l15Last_spec a b c g hg _ hm p hp, ?_⟩
  simp
  refine ⟨_, l15PastOf_spec a b c g hg _ (lastOn_bd g _ p).1 (lastOn_bd g _ p).2, ?_⟩
  simp [viewOn]
theorem all_spec (a b c : Bool) (g : GosV) (hg : GosOk g) : ACalls1 Tryd.prog 75 [gosSl a b c g] (iv (allOn g)) := by
  have hlen := hg.len
  refine walk (fun t => t == 1) mixed Go.Proofs.Tryd.func75 rfl rfl rfl (by kernel_rfl) rfl (by simp) (by kernel_rfl) ?_
  simp
  refine ⟨_, length_spec _ _ (by unfold Fits; simp; omega), ?_⟩
  simp
  refine ⟨_, one_spec g.f.length (by omega), ?_⟩
  simp [allOn, full]
theorem latestIn_spec (a b c : Bool) (g : GosV) (hg : GosOk g) (m : Int) (hm : isM g.f.length m = true) (p : Nat) (hp : p < 63) : ACalls1 Tryd.prog 74 [gosSl a b c g, iv m, iv p] (.own 1 true (ints (latL g (viewOn g m p)))) := by
  have hlen := hg.len
  obtain ⟨h8, h1, h4, hF⟩ := gos_facts hg
  obtain ⟨N, hN⟩ := Int.eq_ofNat_of_zero_le (show 0 ≤ g.n by omega)
  refine walk (fun t => t == 3) mixed Go.Proofs.Tryd.func74 rfl rfl rfl (by kernel_rfl) rfl (by simp) (by kernel_rfl) ?_
  simp
  refine ⟨_, viewIn_spec a b c g hg m hm p hp, ?_⟩
  simp [hN]
  refine awp_loop2 [3, 7, 16] [] (fun k : Nat => [(8, .ref 100), (17, iv k)]) (fun k => [(100, .own 1 true (ints ((List.range k).map fun q => lastOn g (viewOn g m p) q)))]) (fun k => k ≤ N) (fun k => N - k) 0 (weak_mk (fun t => if t = 100 then some 14 else some t) (by simp) (by simp) rfl) (by simp) ?_
  intro k hk
  by_cases hkl : k < N
  · have hG : ACalls1 Tryd.prog 137 [.agg [iv N, .sl 1 a (ints g.pl), .sl 1 b (ints (nats g.f)), .sl 1 c (ints g.past)], iv (viewOn g m p), iv k] (iv (lastOn g (viewOn g m p) k)) := by
      rw [← hN]; exact lastIn_spec a b c g hg _ (viewOn_M hg m p) k (by omega)
    simp [hkl]
    refine ⟨_, hG, ?_⟩
    simp [wrap_id ((k : Int) + 1) (by omega) (by omega)]
    repeat (refine And.intro (by omega) ?_)
    refine Round.mk (k + 1) (weak_mk (fun t => if t = 100 then some 26 else some t) (by simp) (by simp [List.range_succ]) rfl) hkl (by omega)
  · obtain rfl : k = N := by omega
    simp [latL, hN]
theorem l15Latest_spec (a b c : Bool) (g : GosV) (hg : GosOk g) (m : Int) (hm : isM g.f.length m = true) : ACalls1 Tryd.prog 165 [gosSl a b c g, iv m] (.own 1 true (ints (latL g m))) := by
  have hlen := hg.len
  obtain ⟨h8, h1, h4, hF⟩ := gos_facts hg
  obtain ⟨N, hN⟩ := Int.eq_ofNat_of_zero_le (show 0 ≤ g.n by omega)
  refine walk (fun t => t == 2) mixed Go.Proofs.Tryd.func165 rfl rfl rfl (by kernel_rfl) rfl (by simp) (by kernel_rfl) ?_
  simp [hN]
  refine awp_loop2 [1, 2] [] (fun k : Nat => [(5, .ref 100), (6, iv k)]) (fun k => [(100, .own 1 true (ints ((List.range k).map fun q => lastOn g m q)))]) (fun k => k ≤ N) (fun k => N - k) 0 (weak_mk (fun t => if t = 100 then some 7 else some t) (by simp) (by simp) rfl) (by simp) ?_
  intro k hk
  by_cases hkl : k < N
  · have hG : ACalls1 Tryd.prog 167 [.agg [iv N, .sl 1 a (ints g.pl), .sl 1 b (ints (nats g.f)), .sl 1 c (ints g.past)], iv m, iv k] (iv (lastOn g m k)) := by
      rw [← hN]; exact l15Last_spec a b c g hg m hm k (by omega)
    simp [hkl]
    refine ⟨_, hG, ?_⟩
    simp [wrap_id ((k : Int) + 1) (by omega) (by omega)]
    repeat (refine And.intro (by omega) ?_)
    refine Round.mk (k + 1) (weak_mk (fun t => if t = 100 then some 20 else some t) (by simp) (by simp [List.range_succ]) rfl) hkl (by omega)
  · obtain rfl : k = N := by omega
    simp [latL, hN]
end Go.AM
