/-
  NewerByLabels.
-/
import Derived.Test.YtfkplolefaijiaaDoorFnGk
set_option linter.unusedVariables false
set_option linter.unusedSimpArgs false
set_option maxRecDepth 100000
set_option maxHeartbeats 1600000
namespace Go.AM
open Go.Proofs
/-- The same letter and the same label. -/
def markB (g : GosV) (labs : List Int) (e f : Int) : Bool := decide (0 ≤ e) && decide (0 ≤ f) && (nth (nats g.f) e.toNat == nth (nats g.f) f.toNat) && (nth labs e.toNat == nth labs f.toNat)
theorem markB_ge {g : GosV} {labs : List Int} {e f : Int} (h : markB g labs e f = true) : 0 ≤ e ∧ 0 ≤ f := by
  unfold markB at h
  simp only [Bool.and_eq_true, decide_eq_true_eq] at h
  exact ⟨h.1.1.1, h.1.1.2⟩
theorem l15Marked_spec (a b c d : Bool) (g : GosV) (labs : List Int) (hlab : labs.length = g.f.length) (e f : Int) (he : e < g.f.length) (hf : f < g.f.length) : ACalls1 Tryd.prog 57 [gosSl a b c g, .sl 1 d (ints labs), iv e, iv f] (bv (markB g labs e f)) := by
  refine walk (fun t => t == 4) mixed Go.Proofs.Tryd.func57 rfl rfl rfl (by kernel_rfl) rfl (by simp) (by kernel_rfl) ?_
  simp
  unfold markB
  by_cases h1 : 0 ≤ e
  · by_cases h2 : 0 ≤ f
    · obtain ⟨i, rfl⟩ := Int.eq_ofNat_of_zero_le h1
      obtain ⟨k, rfl⟩ := Int.eq_ofNat_of_zero_le h2
      have hi : i < g.f.length := by omega
      have hk : k < g.f.length := by omega
      by_cases h3 : nth (nats g.f) i = nth (nats g.f) k
      · simp [hi, hk, h3, hlab]
        repeat (rw [exE_eq]; simp [hi, hk, h3, hlab])
        all_goals try (exact ⟨fun _ => by omega, fun _ => by omega⟩)
      · simp [hi, hk, h3, hlab]
        repeat (rw [exE_eq]; simp [hi, hk, h3, hlab])
    · simp [h1, h2]
      repeat (rw [exE_eq]; simp [h1, h2])
  · simp [h1]
    repeat (rw [exE_eq]; simp [h1])
theorem newerBy1_spec (a b c d : Bool) (g : GosV) (labs : List Int) (hlab : labs.length = g.f.length) (e f : Int) (he : e < g.f.length) (hf : f < g.f.length) : ACalls1 Tryd.prog 59 [iv e, iv f, .ip [iv g.n, .sl 1 a (ints g.pl), .sl 1 b (ints (nats g.f)), .sl 1 c (ints g.past)], .ip [.sl 1 d (ints labs)]] (bv (markB g labs e f)) := by
  refine walk (fun _ => false) mixed Go.Proofs.Tryd.func59 rfl rfl rfl (by kernel_rfl) rfl (by simp) (by kernel_rfl) ?_
  simp
  unfold markB
  by_cases h1 : 0 ≤ e
  · by_cases h2 : 0 ≤ f
    · obtain ⟨i, rfl⟩ := Int.eq_ofNat_of_zero_le h1
      obtain ⟨k, rfl⟩ := Int.eq_ofNat_of_zero_le h2
      have hi : i < g.f.length := by omega
      have hk : k < g.f.length := by omega
      by_cases h3 : nth (nats g.f) i = nth (nats g.f) k
      · simp [hi, hk, h3, hlab]
        repeat (rw [exE_eq]; simp [hi, hk, h3, hlab])
        all_goals try (exact ⟨fun _ => by omega, fun _ => by omega⟩)
      · simp [hi, hk, h3, hlab]
        repeat (rw [exE_eq]; simp [hi, hk, h3, hlab])
    · simp [h1, h2]
      repeat (rw [exE_eq]; simp [h1, h2])
  · simp [h1]
    repeat (rw [exE_eq]; simp [h1])
/-- Marks of two lists that meet in what precedes `e`. -/
def pairM (g : GosV) (labs L1 L2 : List Int) (e : Nat) (i j : Nat) : Bool := markB g labs (nth L1 i) (nth L2 j) && tb (nth g.past (nth L1 i).toNat) e
def anyB (T : Nat → Nat → Bool) (N : Nat) : Bool := (List.range N).any fun i => (List.range N).any fun j => T i j
theorem anyB_t {T : Nat → Nat → Bool} {N i j : Nat} (hi : i < N) (hj : j < N) (h : T i j = true) : anyB T N = true := by
  unfold anyB
  simp only [List.any_eq_true, List.mem_range]
  exact ⟨i, hi, j, hj, h⟩
theorem anyB_f {T : Nat → Nat → Bool} {N : Nat} (h : ∀ i, i < N → ∀ j, j < N → T i j = false) : anyB T N = false := by
  rw [← Bool.not_eq_true]
  unfold anyB
  simp only [List.any_eq_true, List.mem_range, not_exists, not_and]
  intro i hi j hj
  rw [h i hi j hj]; simp
def newByF (g : GosV) (labs L1 L2 : List Int) (N r : Nat) : Int :=
  if nth L1 r < 0 ∧ nth L2 r < 0 then 0 else if markB g labs (nth L1 r) (nth L2 r) = true then 0 else if nth L2 r < 0 then 1 else if nth L1 r < 0 then 2 else if anyB (pairM g labs L1 L2 (nth L1 r).toNat) N = true then 2 else 1
def newerByLabelsV (n : Int) (pl w : List Int) (p q r : Int) : Int × Int :=
  if gosCode n pl w [p, q, r] = 0 then (newByF (gosW n pl w) (labL (gosW n pl w) (gosW n pl w).f.length) (latL (gosW n pl w) (viewOn (gosW n pl w) (allOn (gosW n pl w)) p.toNat)) (latL (gosW n pl w) (viewOn (gosW n pl w) (allOn (gosW n pl w)) q.toNat)) n.toNat r.toNat, 0) else (0, gosCode n pl w [p, q, r])
theorem latL_bd {g : GosV} {m : Int} : ∀ i, i < g.n.toNat → -1 ≤ nth (latL g m) i ∧ nth (latL g m) i < g.f.length := fun i hi => by
  rw [latL_nth hi]; exact lastOn_bd g m i
theorem specNewerByLabels_spec (n : Int) (hn : I64 n) (a : Bool) (pl : List Int) (hpl : ListOk pl) (b : Bool) (w : List Int) (hw : ListOk w) (p : Int) (hp : I64 p) (q : Int) (hq : I64 q) (r : Int) (hr : I64 r) : ACalls1 Tryd.prog 35 [iv n, .sl 1 a (ints pl), .sl 1 b (ints w), iv p, iv q, iv r] (.tup [iv (newerByLabelsV n pl w p q r).1, iv (newerByLabelsV n pl w p q r).2]) := by
  refine walk (fun t => t == 4028 || t == 3036 || t == 3041 || t == 3046) mixed Go.Proofs.Tryd.func35 rfl rfl rfl (by kernel_rfl) rfl (by simp) (by kernel_rfl) ?_
  simp
  unfold newerByLabelsV
  by_cases hc : gosCode n pl w [p, q, r] = 0
  · have hg := gosW_ok hc
    obtain ⟨c1, c2, c3⟩ := gosCode_zero hc
    obtain ⟨_, h1, h4⟩ := pl_len c1
    have hp' := proc_in c3 (x := p) (by simp)
    have hq' := proc_in c3 (x := q) (by simp)
    have hr' := proc_in c3 (x := r) (by simp)
    obtain ⟨p, rfl⟩ := Int.eq_ofNat_of_zero_le hp'.1
    obtain ⟨q, rfl⟩ := Int.eq_ofNat_of_zero_le hq'.1
    obtain ⟨r, rfl⟩ := Int.eq_ofNat_of_zero_le hr'.1
    have hgl := hg.len
    have hgp := hg.plen
    have hM := hg.past
    have B1 := latL_bd (g := gosW n pl w) (m := viewOn (gosW n pl w) (allOn (gosW n pl w)) p)
    have B2 := latL_bd (g := gosW n pl w) (m := viewOn (gosW n pl w) (allOn (gosW n pl w)) q)
    have l1 := latL_length (gosW n pl w) (viewOn (gosW n pl w) (allOn (gosW n pl w)) p)
    have l2 := latL_length (gosW n pl w) (viewOn (gosW n pl w) (allOn (gosW n pl w)) q)
    have hlab := labL_length (gosW n pl w) (gosW n pl w).f.length
    have hrN : r < n.toNat := by omega
    simp only [gosW_n] at B1 B2 l1 l2
    refine ⟨_, l15Process_yes a b true n hn pl [(p : Int), (q : Int), (r : Int)] w (by simp [Fits]) hc, ?_⟩
    simp [hc]
    refine ⟨_, l15Labels_spec a true false (gosW n pl w) hg (gosW_low hc), ?_⟩
    simp
    refine ⟨_, l15Whole_spec a true false (gosW n pl w) hg p (by omega), ?_⟩
    simp
    refine ⟨_, l15Latest_spec a true false (gosW n pl w) hg _ (viewOn_M hg _ _), ?_⟩
    simp
    refine ⟨_, l15Whole_spec a true false (gosW n pl w) hg q (by omega), ?_⟩
    simp
    refine ⟨_, l15Latest_spec a true false (gosW n pl w) hg _ (viewOn_M hg _ _), ?_⟩
    obtain ⟨N, rfl⟩ := Int.eq_ofNat_of_zero_le (show 0 ≤ n by omega)
    simp only [Int.ofNat_eq_natCast, Int.toNat_natCast] at B1 B2 l1 l2 hlab hgl hgp hM hrN ⊢
    generalize latL (gosW N pl w) (viewOn (gosW N pl w) (allOn (gosW N pl w)) p) = L1 at *
    generalize latL (gosW N pl w) (viewOn (gosW N pl w) (allOn (gosW N pl w)) q) = L2 at *
    generalize labL (gosW N pl w) (gosW N pl w).f.length = labs at *
    have b1 := B1 r hrN
    have b2 := B2 r hrN
    have hcl := fun e f he hf => l15Marked_spec a true false true (gosW N pl w) labs hlab e f he hf
    unfold newByF
    by_cases ha : nth L1 r < 0
    · by_cases hb : nth L2 r < 0
      · simp [hrN, l1, l2, ha, hb]
        repeat (rw [exE_eq]; simp [hrN, l1, l2, ha, hb])
      · have hmk : markB (gosW N pl w) labs (nth L1 r) (nth L2 r) = false := by
          rw [← Bool.not_eq_true]; intro h
          have := (markB_ge h).1; omega
        simp [hrN, l1, l2, ha, hb]
        repeat (rw [exE_eq]; simp [hrN, l1, l2, ha, hb])
        refine ⟨_, hcl _ _ b1.2 b2.2, ?_⟩
        simp [hmk, hrN, l1, l2, ha, hb]
    · simp [hrN, l1, l2, ha]
      repeat (rw [exE_eq]; simp [hrN, l1, l2, ha])
      refine ⟨_, hcl _ _ b1.2 b2.2, ?_⟩
      by_cases hmk : markB (gosW N pl w) labs (nth L1 r) (nth L2 r) = true
      · simp [hmk]
      · by_cases hb : nth L2 r < 0
        · simp [hmk, hrN, l1, l2, ha, hb]
        · obtain ⟨e, he⟩ := Int.eq_ofNat_of_zero_le (show 0 ≤ nth L1 r by omega)
          simp [hmk, hrN, l1, l2, ha, hb]
          refine awp_loop2 [5, 14, 16, 17, 18] [14] (fun i : Nat => [(19, iv i)]) (fun _ => []) (fun i => i ≤ N ∧ ∀ i', i' < i → ∀ j, j < N → pairM (gosW N pl w) labs L1 L2 e i' j = false) (fun i => N - i) 0 (weak_mk some (by simp) (by simp) rfl) ⟨by simp, fun i' hi' => by omega⟩ ?_
          rintro i ⟨hi, hall⟩
          by_cases hil : i < N
          · have bi := B1 i hil
            simp [hil, l1, l2]
            refine awp_loop2 [5, 14, 16, 17, 18, 19] [14] (fun j : Nat => [(20, iv j)]) (fun _ => []) (fun j => j ≤ N ∧ ∀ j', j' < j → pairM (gosW N pl w) labs L1 L2 e i j' = false) (fun j => N - j) 0 (weak_mk some (by simp) (by simp) rfl) ⟨by simp, fun j' hj' => by omega⟩ ?_
            rintro j ⟨hj, hallj⟩
            by_cases hjl : j < N
            · have bj := B2 j hjl
              simp [hil, hjl, l1, l2]
              repeat (rw [exE_eq]; simp [hil, hjl, l1, l2])
              refine ⟨_, hcl _ _ bi.2 bj.2, ?_⟩
              by_cases hm2 : markB (gosW N pl w) labs (nth L1 i) (nth L2 j) = true
              · obtain ⟨x, hx⟩ := Int.eq_ofNat_of_zero_le (markB_ge hm2).1
                have hxl : x < (gosW N pl w).f.length := by omega
                rw [hx] at hm2
                have hMx := (isM_spec (by omega) (hM x hxl)).1
                simp [hm2, hx, hxl, hgp, hrN, hil, l1, he]
                repeat (rw [exE_eq]; simp [hm2, hx, hxl, hgp, hrN, hil, l1, he])
                refine ⟨_, l01Bit_spec _ hMx e (by omega), ?_⟩
                cases hb3 : tb (nth (gosW N pl w).past x) e
                · simp [wrap_id ((j : Int) + 1) (by omega) (by omega)]
                  refine Round.mk (j + 1) (weak_mk some (by simp) (by simp) rfl) ⟨hjl, fun j' hj' => ?_⟩ (by omega)
                  by_cases e2 : j' = j
                  · subst e2; simp [pairM, hm2, hx, he, hb3]
                  · exact hallj j' (by omega)
                · have hany := anyB_t (T := pairM (gosW N pl w) labs L1 L2 e) hil hjl (by simp [pairM, hm2, hx, hb3])
                  simp [hany, he]
              · simp [hm2, wrap_id ((j : Int) + 1) (by omega) (by omega)]
                repeat (rw [exE_eq]; simp [hm2, wrap_id ((j : Int) + 1) (by omega) (by omega)])
                refine Round.mk (j + 1) (weak_mk some (by simp) (by simp) rfl) ⟨hjl, fun j' hj' => ?_⟩ (by omega)
                by_cases e2 : j' = j
                · subst e2; simp [pairM, hm2]
                · exact hallj j' (by omega)
            · obtain rfl : j = N := by omega
              simp [l2, wrap_id ((i : Int) + 1) (by omega) (by omega)]
              refine Round.mk (i + 1) (weak_mk some (by simp) (by simp) rfl) ⟨hil, fun i' hi' j' hj' => ?_⟩ (by omega)
              by_cases e2 : i' = i
              · subst e2; exact hallj j' hj'
              · exact hall i' (by omega) j' hj'
          · obtain rfl : i = N := by omega
            have hany := anyB_f hall
            simp [l1, hany, he]
  · refine ⟨_, l15Process_no a b true n hn pl [p, q, r] w hpl.1 hw.1 (by simp [Fits]) hc, ?_⟩
    simp [hc]
end Go.AM
