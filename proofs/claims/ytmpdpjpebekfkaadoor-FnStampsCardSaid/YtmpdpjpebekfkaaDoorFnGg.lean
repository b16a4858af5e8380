/-
  ViewOf, LatestKnown, NewerOf.
-/
import Derived.Test.YtmpdpjpebekfkaaDoorFnGf
set_option linter.unusedVariables false
set_option linter.unusedSimpArgs false
set_option maxRecDepth 100000
set_option maxHeartbeats 1600000
namespace Go.AM
open Go.Proofs
theorem gosCode_zero {n : Int} {pl w ps : List Int} (h : gosCode n pl w ps = 0) : arePl n pl = true ∧ overW pl.length w = true ∧ procOk n ps = true := by
  unfold gosCode at h
  by_cases h1 : arePl n pl = true
  · by_cases h2 : overW pl.length w = true
    · by_cases h3 : procOk n ps = true
      · exact ⟨h1, h2, h3⟩
      · simp [h1, h2, h3] at h
    · simp [h1, h2] at h
  · simp [h1] at h
/-- The run of a word. -/
def gosW (n : Int) (pl w : List Int) : GosV := gosV n pl (wn w)
@[simp] theorem gosW_n {n : Int} {pl w : List Int} : (gosW n pl w).n = n := rfl
@[simp] theorem gosW_pl {n : Int} {pl w : List Int} : (gosW n pl w).pl = pl := rfl
theorem gosW_ok {n : Int} {pl w ps : List Int} (h : gosCode n pl w ps = 0) : GosOk (gosW n pl w) := by
  obtain ⟨h1, h2, h3⟩ := gosCode_zero h
  obtain ⟨_, hu, h24⟩ := overW_wn h2
  exact gos_ok h1 hu h24
theorem proc_in {n : Int} {ps : List Int} (h : procOk n ps = true) {x : Int} (hx : x ∈ ps) : 0 ≤ x ∧ x < n := by
  unfold procOk at h
  simp only [List.all_eq_true, Bool.and_eq_true, decide_eq_true_eq] at h
  have := h x hx; omega
theorem checkGossip_yes (a b c : Bool) (n : Int) (pl ps w : List Int) (hps : Fits ps) (h : gosCode n pl w ps = 0) : ACalls1 Tryd.prog 67 [iv n, .sl 1 a (ints pl), .sl 1 b (ints w), .sl 1 c (ints ps)] (.tup [gosSl a true true (gosW n pl w), iv 0]) := by
  obtain ⟨h1, h2, h3⟩ := gosCode_zero h
  obtain ⟨hw, hu, h24⟩ := overW_wn h2
  have := checkGossip_ok a b c n pl ps h1 (wn w) (by rw [← hw]; exact h2) hu h24 hps h3
  rw [← hw] at this; exact this
def viewOfV (n : Int) (pl w : List Int) (p : Int) : Int × Int := if gosCode n pl w [p] = 0 then (viewOn (gosW n pl w) (allOn (gosW n pl w)) p.toNat, 0) else (0, gosCode n pl w [p])
theorem ViewOf_spec (n : Int) (hn : I64 n) (a : Bool) (pl : List Int) (hpl : ListOk pl) (b : Bool) (w : List Int) (hw : ListOk w) (p : Int) (hp : I64 p) : ACalls1 Tryd.prog 37 [iv n, .sl 1 a (ints pl), .sl 1 b (ints w), iv p] (.tup [iv (viewOfV n pl w p).1, iv (viewOfV n pl w p).2]) := by
  refine walk (fun t => t == 4017) mixed Go.Proofs.Tryd.func37 rfl rfl rfl (by kernel_rfl) rfl (by simp) (by kernel_rfl) ?_
  simp
  unfold viewOfV
  by_cases hc : gosCode n pl w [p] = 0
  · have hg := gosW_ok hc
    obtain ⟨c1, c2, c3⟩ := gosCode_zero hc
    obtain ⟨_, h1, h4⟩ := pl_len c1
    have hp' := proc_in c3 (x := p) (by simp)
    obtain ⟨q, rfl⟩ := Int.eq_ofNat_of_zero_le hp'.1
    refine ⟨_, checkGossip_yes a b true n pl [(q : Int)] w (by simp [Fits]) hc, ?_⟩
    simp [hc]
    refine ⟨_, all_spec a true true (gosW n pl w) hg, ?_⟩
    simp
    refine ⟨_, viewIn_spec a true true (gosW n pl w) hg _ (allOn_M hg) q (by omega), ?_⟩
    simp
  · refine ⟨_, checkGossip_no a b true n pl [p] w hpl.1 hw.1 (by simp [Fits]) hc, ?_⟩
    simp [hc]
def latestKnownV (n : Int) (pl w : List Int) (p : Int) : List Int × Int := if gosCode n pl w [p] = 0 then (latL (gosW n pl w) (viewOn (gosW n pl w) (allOn (gosW n pl w)) p.toNat), 0) else ([], gosCode n pl w [p])
theorem LatestKnown_fits (n : Int) (hn : I64 n) (pl : List Int) (hpl : ListOk pl) (w : List Int) (hw : ListOk w) (p : Int) (hp : I64 p) : ListOk (latestKnownV n pl w p).1 := by
  unfold latestKnownV
  split
  · rename_i hc
    have hg := gosW_ok hc
    obtain ⟨h8, h1, h4, _⟩ := gos_facts hg
    have hl := hg.len
    refine ⟨by unfold Fits; simp at *; omega, fun x hx => ?_⟩
    obtain ⟨q, _, rfl⟩ := List.mem_map.1 hx
    have := lastOn_bd (gosW n pl w) (viewOn (gosW n pl w) (allOn (gosW n pl w)) p.toNat) q
    unfold I64; omega
  · exact ⟨by simp [Fits], by simp⟩
theorem LatestKnown_spec (n : Int) (hn : I64 n) (a : Bool) (pl : List Int) (hpl : ListOk pl) (b : Bool) (w : List Int) (hw : ListOk w) (p : Int) (hp : I64 p) : ACalls1 Tryd.prog 24 [iv n, .sl 1 a (ints pl), .sl 1 b (ints w), iv p] (.tup [.own 1 false (ints (latestKnownV n pl w p).1), iv (latestKnownV n pl w p).2]) := by
  refine walk (fun t => t == 4017 || t == 1024) mixed Go.Proofs.Tryd.func24 rfl rfl rfl (by kernel_rfl) rfl (by simp) (by kernel_rfl) ?_
  simp
  unfold latestKnownV
  by_cases hc : gosCode n pl w [p] = 0
  · have hg := gosW_ok hc
    obtain ⟨c1, c2, c3⟩ := gosCode_zero hc
    obtain ⟨_, h1, h4⟩ := pl_len c1
    have hp' := proc_in c3 (x := p) (by simp)
    obtain ⟨q, rfl⟩ := Int.eq_ofNat_of_zero_le hp'.1
    refine ⟨_, checkGossip_yes a b true n pl [(q : Int)] w (by simp [Fits]) hc, ?_⟩
    simp [hc]
    refine ⟨_, all_spec a true true (gosW n pl w) hg, ?_⟩
    simp
    refine ⟨_, latestIn_spec a true true (gosW n pl w) hg _ (allOn_M hg) q (by omega), ?_⟩
    simp
    first | refine ⟨⟨by kernel_rfl, by kernel_rfl⟩, ?_⟩ | exact ⟨by kernel_rfl, by kernel_rfl⟩
  · refine ⟨_, checkGossip_no a b true n pl [p] w hpl.1 hw.1 (by simp [Fits]) hc, ?_⟩
    simp [hc]
def newerF (g : GosV) (p q r : Nat) : Int :=
  if lastOn g (viewOn g (allOn g) p) r > lastOn g (viewOn g (allOn g) q) r then 1 else if lastOn g (viewOn g (allOn g) p) r < lastOn g (viewOn g (allOn g) q) r then 2 else 0
def newerOfV (n : Int) (pl w : List Int) (p q r : Int) : Int × Int := if gosCode n pl w [p, q, r] = 0 then (newerF (gosW n pl w) p.toNat q.toNat r.toNat, 0) else (0, gosCode n pl w [p, q, r])
theorem NewerOf_spec (n : Int) (hn : I64 n) (a : Bool) (pl : List Int) (hpl : ListOk pl) (b : Bool) (w : List Int) (hw : ListOk w) (p : Int) (hp : I64 p) (q : Int) (hq : I64 q) (r : Int) (hr : I64 r) : ACalls1 Tryd.prog 26 [iv n, .sl 1 a (ints pl), .sl 1 b (ints w), iv p, iv q, iv r] (.tup [iv (newerOfV n pl w p q r).1, iv (newerOfV n pl w p q r).2]) := by
  refine walk (fun t => t == 4025 || t == 3036 || t == 3044) mixed Go.Proofs.Tryd.func26 rfl rfl rfl (by kernel_rfl) rfl (by simp) (by kernel_rfl) ?_
  simp
  unfold newerOfV
  by_cases hc : gosCode n pl w [p, q, r] = 0
  · have hg := gosW_ok hc
    obtain ⟨c1, c2, c3⟩ := gosCode_zero hc
    obtain ⟨_, h1, h4⟩ := pl_len c1
    have hp' := proc_in c3 (x := p) (by simp)
    have hq' := proc_in c3 (x := q) (by simp)
    have hr' := proc_in c3 (x := r) (by simp)
    obtain ⟨p, rfl⟩ := Int.eq_ofNat_of_zero_le hp'.1
    obtain ⟨q, rfl⟩ := Int.eq_ofNat_of_zero_le hq'.1
    obtain ⟨r, rfl⟩ := Int.eq_ofNat_of_zero_le hr'.1
    have hrn : r < (gosW n pl w).n.toNat := by simp; omega
    have hrn' : r < n.toNat := by omega
    refine ⟨_, checkGossip_yes a b true n pl [(p : Int), (q : Int), (r : Int)] w (by simp [Fits]) hc, ?_⟩
    simp [hc]
    refine ⟨_, all_spec a true true (gosW n pl w) hg, ?_⟩
    simp
    refine ⟨_, latestIn_spec a true true (gosW n pl w) hg _ (allOn_M hg) p (by omega), ?_⟩
    simp [hrn, hrn', latL_nth hrn]
    repeat (rw [exE_eq]; simp [hrn, hrn', latL_nth hrn])
    refine ⟨_, all_spec a true true (gosW n pl w) hg, ?_⟩
    simp
    refine ⟨_, latestIn_spec a true true (gosW n pl w) hg _ (allOn_M hg) q (by omega), ?_⟩
    simp [hrn, hrn', latL_nth hrn]
    repeat (rw [exE_eq]; simp [hrn, hrn', latL_nth hrn])
    unfold newerF
    by_cases k1 : lastOn (gosW n pl w) (viewOn (gosW n pl w) (allOn (gosW n pl w)) p) r > lastOn (gosW n pl w) (viewOn (gosW n pl w) (allOn (gosW n pl w)) q) r
    · simp [k1]
      intro _; omega
    · by_cases k2 : lastOn (gosW n pl w) (viewOn (gosW n pl w) (allOn (gosW n pl w)) p) r < lastOn (gosW n pl w) (viewOn (gosW n pl w) (allOn (gosW n pl w)) q) r
      · simp [k1, k2]
      · simp [k1, k2]
  · refine ⟨_, checkGossip_no a b true n pl [p, q, r] w hpl.1 hw.1 (by simp [Fits]) hc, ?_⟩
    simp [hc]
end Go.AM
