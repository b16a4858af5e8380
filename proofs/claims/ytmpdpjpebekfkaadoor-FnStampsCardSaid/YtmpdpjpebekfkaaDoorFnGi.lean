/-
  StampsOf, KnownCounts, SecondHand, PastByStamps.
-/
import Derived.Test.YtmpdpjpebekfkaaDoorFnGh
import Derived.Test.YtmpdpjpebekfkaaDoorFnR
set_option linter.unusedVariables false
set_option linter.unusedSimpArgs false
set_option maxRecDepth 100000
set_option maxHeartbeats 1600000
namespace Go.AM
open Go.Proofs
theorem RepL_cons_mono {w : World} {I : Nat → Prop} {n : Nat → Option Value} {x : AV} {r r' : List AV} (h : ∀ B vs, RepL w I n r' B vs → RepL w I n r B vs) : ∀ B vs, RepL w I n (x :: r') B vs → RepL w I n (x :: r) B vs := by
  intro B vs hr
  simp only [RepL] at hr ⊢
  obtain ⟨B₁, B₂, v, vs', rfl, rfl, h1, h2⟩ := hr
  exact ⟨B₁, B₂, v, vs', rfl, rfl, h1, h _ _ h2⟩
/-- A nil slice handed over as the fourth argument. -/
theorem ACalls1.nil4 {P : Program} {f : FuncId} {sz : Nat} {a b c : AV} {r : AV} (h : ACalls1 P f [a, b, c, .sl sz false []] r) (hb : immL [a, b, c] = true) : ACalls1 P f [a, b, c, .val (.slice none 0 0)] r := by
  refine h.args (fun w I B vs hr => ?_) (hb := ?_)
  · revert hr
    refine RepL_cons_mono (RepL_cons_mono (RepL_cons_mono ?_)) B vs
    intro B vs hr
    simp only [RepL] at hr ⊢
    obtain ⟨B₁, B₂, v, vs', rfl, rfl, h1, h2⟩ := hr
    simp only [Rep] at h1
    refine ⟨B₁, B₂, v, vs', rfl, rfl, ?_, h2⟩
    simp only [Rep]
    exact ⟨h1.1, .inl ⟨h1.2, trivial, trivial⟩⟩
  · simp only [immL, Bool.and_eq_true] at hb ⊢
    exact ⟨hb.1, hb.2.1, hb.2.2.1, by simp [imm]⟩
theorem readCode_eq (n : Int) (pl w : List Int) : readCode n pl w = gosCode n pl w [] := by
  unfold readCode gosCode procOk
  simp
theorem checkNil_yes (a b : Bool) (n : Int) (pl w : List Int) (h : gosCode n pl w [] = 0) : ACalls1 Tryd.prog 67 [iv n, .sl 1 a (ints pl), .sl 1 b (ints w), .val (.slice none 0 0)] (.tup [gosSl a true true (gosW n pl w), iv 0]) :=
  ACalls1.nil4 (checkGossip_yes a b false n pl [] w (by simp [Fits]) h) (by simp)
theorem checkNil_no (a b : Bool) (n : Int) (pl w : List Int) (hpl : Fits pl) (hw : Fits w) (hc : gosCode n pl w [] ≠ 0) : ACalls1 Tryd.prog 67 [iv n, .sl 1 a (ints pl), .sl 1 b (ints w), .val (.slice none 0 0)] (.tup [gosNo, iv (gosCode n pl w [])]) :=
  ACalls1.nil4 (checkGossip_no a b false n pl [] w hpl hw (by simp [Fits]) hc) (by simp)
theorem l15Read_yes (a b : Bool) (n : Int) (hn : I64 n) (pl w : List Int) (h : gosCode n pl w [] = 0) : ACalls1 Tryd.prog 69 [iv n, .sl 1 a (ints pl), .sl 1 b (ints w)] (.tup [.agg [iv n, .sl 1 a (ints pl), .sl 1 true (ints (nats (gosW n pl w).f)), .own 1 false (ints (gosW n pl w).past)], iv 0]) := by
  obtain ⟨h1, h2, h3⟩ := gosCode_zero h
  obtain ⟨hw, hu, h24⟩ := overW_wn h2
  have := l15Read_ok a b n hn pl h1 (wn w) (by rw [← hw]; exact h2) hu h24
  rw [← hw] at this; exact this
theorem total_le {c : Nat} : ∀ (rs : List (List Int)), (∀ r ∈ rs, r.length ≤ c) → total rs ≤ c * rs.length
  | [], _ => by simp [total]
  | r :: rs, h => by
    have h1 := h r (by simp)
    have h2 := total_le rs (fun r hr => h r (by simp [hr]))
    simp only [total, List.length_cons, Nat.mul_add, Nat.mul_one]
    omega
theorem rows_ok {rs : List (List Int)} (h : rs.length ≤ 1000) (h2 : ∀ r ∈ rs, r.length ≤ 4 ∧ ListOk r) : RowsOk rs :=
  ⟨by omega, by have := total_le (c := 4) rs (fun r hr => (h2 r hr).1); omega, fun r hr => (h2 r hr).2⟩
theorem latL_ok {g : GosV} (hg : GosOk g) (m : Int) : (latL g m).length ≤ 4 ∧ ListOk (latL g m) := by
  obtain ⟨h8, h1, h4, _⟩ := gos_facts hg
  have hlen := hg.len
  have e := latL_length g m
  refine ⟨by omega, by unfold Fits; omega, fun x hx => ?_⟩
  obtain ⟨q, _, rfl⟩ := List.mem_map.1 hx
  have := lastOn_bd g m q
  unfold I64; omega
def stampL (g : GosV) : List (List Int) := (List.range g.f.length).map fun i => countL g (nth g.past i)
def stampsOfV (n : Int) (pl w : List Int) : List (List Int) × Int := if gosCode n pl w [] = 0 then (stampL (gosW n pl w), 0) else ([], gosCode n pl w [])
theorem StampsOf_fits (n : Int) (hn : I64 n) (pl : List Int) (hpl : ListOk pl) (w : List Int) (hw : ListOk w) : RowsOk (stampsOfV n pl w).1 := by
  unfold stampsOfV
  split
  · rename_i hc
    have hg := gosW_ok hc
    have hl := hg.len
    refine rows_ok (by simp [stampL]; omega) fun r hr => ?_
    obtain ⟨q, _, rfl⟩ := List.mem_map.1 hr
    exact countL_ok hg _
  · exact rows_ok (by simp) (by simp)
theorem StampsOf_spec (n : Int) (hn : I64 n) (a : Bool) (pl : List Int) (hpl : ListOk pl) (b : Bool) (w : List Int) (hw : ListOk w) : ACalls1 Tryd.prog 29 [iv n, .sl 1 a (ints pl), .sl 1 b (ints w)] (.tup [.own 1 false (orows true (stampsOfV n pl w).1), iv (stampsOfV n pl w).2]) := by
  refine walk (fun _ => false) mixed Go.Proofs.Tryd.func29 rfl rfl rfl (by kernel_rfl) rfl (by simp) (by kernel_rfl) ?_
  simp
  unfold stampsOfV
  by_cases hc : gosCode n pl w [] = 0
  · have hg := gosW_ok hc
    have hlen := hg.len
    have hpl' := hg.plen
    refine ⟨_, checkNil_yes a b n pl w hc, ?_⟩
    simp [hc]
    refine awp_loop2 [8, 25, 26] [8] (fun k : Nat => [(10, .ref 100), (27, iv k)]) (fun k => [(100, .own 1 true (orows true ((List.range k).map fun i => countL (gosW n pl w) (nth (gosW n pl w).past i))))]) (fun k => k ≤ (gosW n pl w).f.length) (fun k => (gosW n pl w).f.length - k) 0 (weak_mk (fun t => if t = 100 then some 23 else some t) (by simp) (by simp) rfl) (by simp) ?_
    intro k hk
    by_cases hkl : k < (gosW n pl w).f.length
    · simp [hkl, hpl']
      refine ⟨_, counts_spec a true true (gosW n pl w) hg _ (hg.past k hkl), ?_⟩
      simp [wrap_id ((k : Int) + 1) (by omega) (by omega)]
      repeat (refine And.intro (by omega) ?_)
      refine Round.mk (k + 1) (weak_mk (fun t => if t = 100 then some 36 else some t) (by simp) ?_ rfl) hkl (by omega)
      simp [List.range_succ, orows]
    · obtain hke : k = (gosW n pl w).f.length := by omega
      simp [hke, hpl', stampL]
  · refine ⟨_, checkNil_no a b n pl w hpl.1 hw.1 hc, ?_⟩
    simp [hc]
theorem specStampsOf_spec (n : Int) (hn : I64 n) (a : Bool) (pl : List Int) (hpl : ListOk pl) (b : Bool) (w : List Int) (hw : ListOk w) : ACalls1 Tryd.prog 30 [iv n, .sl 1 a (ints pl), .sl 1 b (ints w)] (.tup [.own 1 false (orows true (stampsOfV n pl w).1), iv (stampsOfV n pl w).2]) := by
  refine walk (fun t => t == 3016 || t == 1030) mixed Go.Proofs.Tryd.func30 rfl rfl rfl (by kernel_rfl) rfl (by simp) (by kernel_rfl) ?_
  simp
  unfold stampsOfV
  by_cases hc : gosCode n pl w [] = 0
  · have hg := gosW_ok hc
    have hlen := hg.len
    have hpl' := hg.plen
    refine ⟨_, l15Read_yes a b n hn pl w hc, ?_⟩
    simp [hc]
    refine awp_loop2 [8] [8] (fun k : Nat => [(10, .ref 100), (11, iv k)]) (fun k => [(100, .own 1 true (orows true ((List.range k).map fun i => countL (gosW n pl w) (nth (gosW n pl w).past i))))]) (fun k => k ≤ (gosW n pl w).f.length) (fun k => (gosW n pl w).f.length - k) 0 (weak_mk (fun t => if t = 100 then some 22 else some t) (by simp) (by simp) rfl) (by simp) ?_
    intro k hk
    by_cases hkl : k < (gosW n pl w).f.length
    · simp [hkl, hpl']
      repeat (rw [exE_eq]; simp [hkl, hpl'])
      refine ⟨_, l15Counts_spec a true false (gosW n pl w) hg _ (hg.past k hkl), ?_⟩
      simp [wrap_id ((k : Int) + 1) (by omega) (by omega)]
      repeat (refine And.intro (by first | omega | exact ⟨by kernel_rfl, by kernel_rfl⟩) ?_)
      refine Round.mk (k + 1) (weak_mk (fun t => if t = 100 then some 39 else some t) (by simp) ?_ rfl) hkl (by omega)
      simp [List.range_succ, orows]
    · obtain hke : k = (gosW n pl w).f.length := by omega
      simp [hke, stampL]
  · refine ⟨_, l15Read_no a b n hn pl w hpl.1 hw.1 (by rw [readCode_eq]; exact hc), ?_⟩
    rw [readCode_eq]
    simp [hc]
def knownCountsV (n : Int) (pl w : List Int) : List (List Int) × Int := if gosCode n pl w [] = 0 then ((List.range n.toNat).map fun q => countL (gosW n pl w) (viewOn (gosW n pl w) (allOn (gosW n pl w)) q), 0) else ([], gosCode n pl w [])
theorem KnownCounts_fits (n : Int) (hn : I64 n) (pl : List Int) (hpl : ListOk pl) (w : List Int) (hw : ListOk w) : RowsOk (knownCountsV n pl w).1 := by
  unfold knownCountsV
  split
  · rename_i hc
    have hg := gosW_ok hc
    obtain ⟨h8, h1, h4, _⟩ := gos_facts hg
    simp only [gosW_n] at h1 h4
    refine rows_ok (by simp; omega) fun r hr => ?_
    obtain ⟨q, _, rfl⟩ := List.mem_map.1 hr
    exact countL_ok hg _
  · exact rows_ok (by simp) (by simp)
theorem KnownCounts_spec (n : Int) (hn : I64 n) (a : Bool) (pl : List Int) (hpl : ListOk pl) (b : Bool) (w : List Int) (hw : ListOk w) : ACalls1 Tryd.prog 31 [iv n, .sl 1 a (ints pl), .sl 1 b (ints w)] (.tup [.own 1 false (orows true (knownCountsV n pl w).1), iv (knownCountsV n pl w).2]) := by
  refine walk (fun t => t == 1027) mixed Go.Proofs.Tryd.func31 rfl rfl rfl (by kernel_rfl) rfl (by simp) (by kernel_rfl) ?_
  simp
  unfold knownCountsV
  by_cases hc : gosCode n pl w [] = 0
  · have hg := gosW_ok hc
    obtain ⟨h8, h1, h4, _⟩ := gos_facts hg
    simp only [gosW_n] at h1 h4
    obtain ⟨N, rfl⟩ := Int.eq_ofNat_of_zero_le (show 0 ≤ n by omega)
    refine ⟨_, checkNil_yes a b N pl w hc, ?_⟩
    simp [hc]
    refine awp_loop2 [8, 23] [8] (fun k : Nat => [(10, .ref 100), (24, iv k)]) (fun k => [(100, .own 1 true (orows true ((List.range k).map fun q => countL (gosW N pl w) (viewOn (gosW N pl w) (allOn (gosW N pl w)) q))))]) (fun k => k ≤ N) (fun k => N - k) 0 (weak_mk (fun t => if t = 100 then some 22 else some t) (by simp) (by simp) rfl) (by simp) ?_
    intro k hk
    by_cases hkl : k < N
    · simp [hkl]
      refine ⟨_, all_spec a true true (gosW N pl w) hg, ?_⟩
      simp
      refine ⟨_, viewIn_spec a true true (gosW N pl w) hg _ (allOn_M hg) k (by omega), ?_⟩
      simp
      refine ⟨_, counts_spec a true true (gosW N pl w) hg _ (viewOn_M hg _ _), ?_⟩
      simp [wrap_id ((k : Int) + 1) (by omega) (by omega)]
      repeat (refine And.intro (by first | omega | exact ⟨by kernel_rfl, by kernel_rfl⟩) ?_)
      refine Round.mk (k + 1) (weak_mk (fun t => if t = 100 then some 36 else some t) (by simp) ?_ rfl) hkl (by omega)
      simp [List.range_succ, orows]
    · obtain rfl : k = N := by omega
      simp
  · refine ⟨_, checkNil_no a b n pl w hpl.1 hw.1 hc, ?_⟩
    simp [hc]
def secondHandV (n : Int) (pl w : List Int) (p : Int) : List (List Int) × Int := if gosCode n pl w [p] = 0 then (secL (gosW n pl w) (viewOn (gosW n pl w) (allOn (gosW n pl w)) p.toNat), 0) else ([], gosCode n pl w [p])
theorem SecondHand_fits (n : Int) (hn : I64 n) (pl : List Int) (hpl : ListOk pl) (w : List Int) (hw : ListOk w) (p : Int) (hp : I64 p) : RowsOk (secondHandV n pl w p).1 := by
  unfold secondHandV
  split
  · rename_i hc
    have hg := gosW_ok hc
    obtain ⟨h8, h1, h4, _⟩ := gos_facts hg
    refine rows_ok (by simp [secL]; simp only [gosW_n] at h1 h4; omega) fun r hr => ?_
    obtain ⟨q, _, rfl⟩ := List.mem_map.1 hr
    exact latL_ok hg _
  · exact rows_ok (by simp) (by simp)
theorem SecondHand_spec (n : Int) (hn : I64 n) (a : Bool) (pl : List Int) (hpl : ListOk pl) (b : Bool) (w : List Int) (hw : ListOk w) (p : Int) (hp : I64 p) : ACalls1 Tryd.prog 38 [iv n, .sl 1 a (ints pl), .sl 1 b (ints w), iv p] (.tup [.own 1 false (orows true (secondHandV n pl w p).1), iv (secondHandV n pl w p).2]) := by
  refine walk (fun t => t == 4017 || t == 1024) mixed Go.Proofs.Tryd.func38 rfl rfl rfl (by kernel_rfl) rfl (by simp) (by kernel_rfl) ?_
  simp
  unfold secondHandV
  by_cases hc : gosCode n pl w [p] = 0
  · have hg := gosW_ok hc
    obtain ⟨c1, c2, c3⟩ := gosCode_zero hc
    obtain ⟨_, h1, h4⟩ := pl_len c1
    have hp' := proc_in c3 (x := p) (by simp)
    obtain ⟨q, rfl⟩ := Int.eq_ofNat_of_zero_le hp'.1
    refine ⟨_, checkGossip_yes a b true n pl [(q : Int)] w (by simp [Fits]) hc, ?_⟩
    simp [hc]
    refine ⟨_, all_spec a true true (gosW n pl w) hg, ?_⟩
    simp
    refine ⟨_, secondIn_spec a true true (gosW n pl w) hg _ (allOn_M hg) q (by omega), ?_⟩
    simp
    first | refine ⟨⟨by kernel_rfl, by kernel_rfl⟩, ?_⟩ | exact ⟨by kernel_rfl, by kernel_rfl⟩
  · refine ⟨_, checkGossip_no a b true n pl [p] w hpl.1 hw.1 (by simp [Fits]) hc, ?_⟩
    simp [hc]
end Go.AM
