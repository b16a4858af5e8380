/-
  NewerByLabels.
-/
import Derived.Test.YtmpdpjpebekfkaaDoorFnGk
set_option linter.unusedVariables false
set_option linter.unusedSimpArgs false
set_option maxRecDepth 100000
set_option maxHeartbeats 1600000
namespace Go.AM
open Go.Proofs
/-- The same letter and the same label. -/
def markB (g : GosV) (labs : List Int) (e f : Int) : Bool := decide (0 ≤ e) && decide (0 ≤ f) && (nth (nats g.f) e.toNat == nth (nats g.f) f.toNat) && (nth labs e.toNat == nth labs f.toNat)
theorem markB_ge {g : GosV} {labs : List Int} {e f : Int} (h : markB g labs e f = true) : 0 ≤ e ∧ 0 ≤ f := by
  unfold markB at h
  simp only [Bool.and_eq_true, decide_eq_true_eq] at h
  exact ⟨h.1.1.1, h.1.1.2⟩
theorem newerBy1_spec (a b c d : Bool) (g : GosV) (labs : List Int) (hlab : labs.length = g.f.length) (e f : Int) (he : e < g.f.length) (hf : f < g.f.length) : ACalls1 Tryd.prog 76 [iv e, iv f, .ip [iv g.n, .sl 1 a (ints g.pl), .sl 1 b (ints (nats g.f)), .sl 1 c (ints g.past)], .ip [.sl 1 d (ints labs)]] (bv (markB g labs e f)) := by
  refine walk (fun _ => false) mixed Go.Proofs.Tryd.func76 rfl rfl rfl (by kernel_rfl) rfl (by simp) (by kernel_rfl) ?_
  simp
  unfold markB
  by_cases h1 : 0 ≤ e
  · by_cases h2 : 0 ≤ f
    · obtain ⟨i, rfl⟩ := Int.eq_ofNat_of_zero_le h1
      obtain ⟨k, rfl⟩ := Int.eq_ofNat_of_zero_le h2
      have hi : i < g.f.length := by omega
      have hk : k < g.f.length := by omega
      by_cases h3 : nth (nats g.f) i = nth (nats g.f) k
      · simp [hi, hk, h3, hlab]
        repeat (rw [exE_eq]; simp [hi, hk, h3, hlab])
        all_goals try (exact ⟨fun _ => by omega, fun _ => by omega⟩)
      · simp [hi, hk, h3, hlab]
        repeat (rw [exE_eq]; simp [hi, hk, h3, hlab])
    · simp [h1, h2]
      repeat (rw [exE_eq]; simp [h1, h2])
  · simp [h1]
    repeat (rw [exE_eq]; simp [h1])
/-- Marks of two lists that meet in what precedes `e`. -/
def pairM (g : GosV) (labs L1 L2 : List Int) (e : Nat) (i j : Nat) : Bool := markB g labs (nth L1 i) (nth L2 j) && tb (nth g.past (nth L1 i).toNat) e
def anyB (T : Nat → Nat → Bool) (N : Nat) : Bool := (List.range N).any fun i => (List.range N).any fun j => T i j
theorem anyB_t {T : Nat → Nat → Bool} {N i j : Nat} (hi : i < N) (hj : j < N) (h : T i j = true) : anyB T N = true := by
  unfold anyB
  simp only [List.any_eq_true, List.mem_range]
  exact ⟨i, hi, j, hj, h⟩
theorem anyB_f {T : Nat → Nat → Bool} {N : Nat} (h : ∀ i, i < N → ∀ j, j < N → T i j = false) : anyB T N = false := by
  rw [← Bool.not_eq_true]
  unfold anyB
  simp only [List.any_eq_true, List.mem_range, not_exists, not_and]
  intro i hi j hj
  rw [h i hi j hj]; simp
def newByF (g : GosV) (labs L1 L2 : List Int) (N r : Nat) : Int :=
  if nth L1 r < 0 ∧ nth L2 r < 0 then 0 else if markB g labs (nth L1 r) (nth L2 r) = true then 0 else if nth L2 r < 0 then 1 else if nth L1 r < 0 then 2 else if anyB (pairM g labs L1 L2 (nth L1 r).toNat) N = true then 2 else 1
def newerByLabelsV (n : Int) (pl w : List Int) (p q r : Int) : Int × Int :=
  if gosCode n pl w [p, q, r] = 0 then (newByF (gosW n pl w) (labL (gosW n pl w) (gosW n pl w).f.length) (latL (gosW n pl w) (viewOn (gosW n pl w) (allOn (gosW n pl w)) p.toNat)) (latL (gosW n pl w) (viewOn (gosW n pl w) (allOn (gosW n pl w)) q.toNat)) n.toNat r.toNat, 0) else (0, gosCode n pl w [p, q, r])
theorem latL_bd {g : GosV} {m : Int} : ∀ i, i < g.n.toNat → -1 ≤ nth (latL g m) i ∧ nth (latL g m) i < g.f.length := fun i hi => by
  rw [latL_nth hi]; exact lastOn_bd g m i
end Go.AM
